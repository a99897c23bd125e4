import Derived.Test.YtpbflgemhcaooaaDoorPt34
import Derived.Test.YtpbflgemhcaooaaDoorPt15
import Derived.Test.YtpbflgemhcaooaaDoorProg
import Derived.Test.YtpbflgemhcaooaaDoorPt8
import Derived.Maps.OwnOps
import Derived.StringKeys
/- The document's reader: statements up to a bracket. -/
namespace Go.Proofs.YtpbflgemhcaooaaDoor
open Go.RowKit
set_option linter.unusedSimpArgs false
set_option linter.unusedVariables false
set_option maxRecDepth 4000 in
set_option maxHeartbeats 3200000 in
theorem all_stmts (B : SB) (hd : B.d ≤ 9) (ih : StDoes B.d) (u0 : World) (p0 : Ev.PS) (hS0 : SI B u0 (.slice none 0 0) []) (hA0 : PAt u0 B.b p0) (hl : p0.s.length ≤ 1200) (hv0 : VarsP B.b B.w0) :
    Calls Tryd.prog 47 #[.pointer (some ⟨B.b, 0, none⟩), .func (.func 87) #[] #[.pointer (some ⟨B.lb, 0, none⟩), .pointer (some ⟨B.pb, 0, none⟩), .pointer (some ⟨B.dk, 0, none⟩)]] u0 fun e u' => e = .returned (.tuple #[]) ∧ (∃ va, SI B u' va (Ev.blockW (Ev.stmtW B.d) p0).1) ∧ PAt u' B.b (Ev.blockW (Ev.stmtW B.d) p0).2 := by
  have HS0 := Lib.hid hS0
  have HA0 := Lib.hid hA0
  have HV0 := Lib.hid hv0
  have HR : Hid (Ev.blockW (Ev.stmtW B.d) p0 = Ev.allW (Ev.stmtW B.d) (p0.s.length + 1) p0) := Lib.hid rfl
  have CS := Lib.hid (fun u va l q h1 h2 h3 h4 h5 => stmts1_any B hd ih u va l q h1 h2 h3 h4 h5)
  have HST := Lib.hid (Ev.stmt_steps B.d)
  generalize Ev.blockW (Ev.stmtW B.d) p0 = R at *
  generalize Ev.stmtW B.d = f at *
  clear hS0 hA0 hv0 ih
  go_enter Tryd.func47, Tryd.ntmps47
  go_upto_region 0 with fail
  go_loopw [13] (fun _ wr => ∃ (q : Ev.PS) (acc : List Ev.St1) (va : Value), Hid (PAt wr B.b q) ∧ Hid (SI B wr va acc) ∧ q.s.length ≤ 1200 ∧ acc.length + q.s.length ≤ p0.s.length + (if q.err = 0 then 0 else 1) ∧ Hid (R = (acc ++ (Ev.allW f (q.s.length + 1) q).1, (Ev.allW f (q.s.length + 1) q).2))) (fun _ wr => psM wr B.b)
  case atStart => exact ⟨p0, [], _, HA0, HS0, hl, by simp, Lib.hid (by rw [HR.out]; rfl)⟩
  case round =>
  obtain ⟨q, acc, va, HA, HS, hq, hacc, HT⟩ := hrel
  have c1 : wr.cell? ⟨B.b, 1, none⟩ = some (.int .i64 q.err) := HA.out.c1
  have hbl := HA.out.lt
  have HVr := Lib.hid (HV0.out.to HS.out.fr)
  by_cases h0 : q.err = 0
  case neg => as_aux_lemma =>
    have g0 : (q.err == 0) = false := beq_eq_false_iff_ne.2 h0
    have HZ := Lib.hid (Ev.all_stop (f := f) (k := q.s.length + 1) (p := q) (fun h => h0 h.1))
    clear h0
    go_wp2_with (go_at_call 46; refine (is_any q [41] B.b _ HA.out hq).mono ?_; rintro e w5 ⟨rfl, h5, hF5⟩)
    go_end0
    have e : R = (acc, Ev.isW [41] q) := by rw [HT.out, HZ.out]; simp
    exact ⟨rfl, ⟨va, by rw [e]; exact HS.out.move hF5⟩, by rw [e]; exact h5⟩
  case pos =>
  have g0 : (q.err == 0) = true := beq_iff_eq.2 h0
  rw [if_pos h0] at hacc
  have CP := Lib.hid (peek_any q B.b wr HA.out hq)
  have hsk := Ev.skip_le q.s
  by_cases hp : Ev.peekW q.s = [41]
  case pos => as_aux_lemma =>
    have HZ := Lib.hid (Ev.all_stop (f := f) (k := q.s.length + 1) (p := q) (fun h => h.2 hp))
    rw [hp] at CP
    clear h0 hp
    go_wp2_with (first | (go_at_call 54; refine CP.out.mono ?_; rintro e w4 ⟨rfl, h4, hF4⟩; have H4 := Lib.hid h4; have HF4 := Lib.hid hF4; clear h4 hF4) | (go_at_call 46; refine (is_any q.skip [41] B.b _ H4.out (by show (Ev.skipB q.s).length ≤ 1200; omega)).mono ?_; rintro e w5 ⟨rfl, h5, hF5⟩))
    go_end0
    have e : R = (acc, Ev.isW [41] q) := by rw [HT.out, HZ.out]; simp
    exact ⟨rfl, ⟨va, by rw [e]; exact (HS.out.move HF4.out).move hF5⟩, by rw [e, ← Ev.is_skip]; exact h5⟩
  case neg => as_aux_lemma =>
    have HRD := Lib.hid (Ev.all_round HST.out h0 hp)
    have HSQ := Lib.hid (HST.out q.skip)
    have H0 := Lib.hid h0
    obtain ⟨v, hv⟩ : ∃ v, Ev.peekW q.s = v := ⟨_, rfl⟩
    rw [hv] at CP hp
    have gp : (v != [41]) = true := bne_iff_ne.2 hp
    have gp2 : (v == [41]) = false := beq_eq_false_iff_ne.2 hp
    have HQS := Lib.hid (show q.skip.s.length ≤ q.s.length from hsk)
    clear h0 hp hv hsk
    go_wp2_with (first | (go_at_call 54; refine CP.out.mono ?_; rintro e w4 ⟨rfl, h4, hF4⟩; have H4 := Lib.hid h4; have M4 := Lib.hid (HS.out.move hF4); have V4 := Lib.hid (HVr.out.to hF4); clear h4 hF4) | (go_at_call 87; refine (CS.out w4 va acc q.skip M4.out H4.out (by have := HQS.out; omega) V4.out (by omega)).mono ?_; rintro e w5 ⟨rfl, ⟨va5, M5⟩, h5⟩; have M5 := Lib.hid M5; have H5 := Lib.hid h5; clear h5))
    go_roundw
    case rel =>
      refine ⟨(f q.skip).2, acc ++ [(f q.skip).1], va5, H5, M5, ?_, ?_, Lib.hid ?_⟩
      · have := HSQ.out.1.len; have := HQS.out; omega
      · have h1 := HSQ.out.1.len
        have h2 := HQS.out
        have h3 := HSQ.out.2 H0.out
        rw [List.length_append]
        show acc.length + 1 + _ ≤ _
        split
        · rename_i h4
          rcases h3 with h3 | h3
          · exact absurd h4 h3
          · omega
        · omega
      · rw [HT.out, HRD.out]
        simp
    case measure =>
      refine psM_less HA.out H5.out H0.out ?_
      rcases HSQ.out.2 H0.out with h | h
      · exact .inl h
      · have := HQS.out
        exact .inr (by omega)
set_option maxRecDepth 4000 in
set_option maxHeartbeats 3200000 in
theorem stmts_any (d : Nat) (hd : d ≤ 9) (ih : StDoes d) (p : Ev.PS) (b : Nat) (w : World) (h : PAt w b p) (hl : p.s.length ≤ 1200) (hv : VarsP b w) :
    Calls Tryd.prog 53 #[.pointer (some ⟨b, 0, none⟩), .int .i64 (9 - (d : Int))] w fun e w' => ∃ v, e = .returned v ∧ RStL (d + 1) w' (fun k => w.heap.size ≤ k ∧ k < w'.heap.size) v (Ev.blockW (Ev.stmtW d) p).1 ∧ PAt w' b (Ev.blockW (Ev.stmtW d) p).2 ∧ PFr b w w' := by
  have H := Lib.hid h
  have HV := Lib.hid hv
  have hbl := h.lt
  clear h hv
  go_enter Tryd.func53, Tryd.ntmps53
  go_upto_region 2 with fail
  have b1 : Below w.heap.size w (w.alloc (.cells #[.pointer (some ⟨b, 0, none⟩)] 81)) := (Below.refl _ _).alloc (Nat.le_refl _) _
  have b2 : Below w.heap.size w ((w.alloc (.cells #[.pointer (some ⟨b, 0, none⟩)] 81)).alloc (.cells #[.int .i64 (9 - (d : Int))] 3)) := b1.alloc (by simp) _
  have b3 : Below w.heap.size w (((w.alloc (.cells #[.pointer (some ⟨b, 0, none⟩)] 81)).alloc (.cells #[.int .i64 (9 - (d : Int))] 3)).alloc (.cells #[.slice none 0 0] 23)) := b2.alloc (by simp; omega) _
  have e1 : (((w.alloc (.cells #[.pointer (some ⟨b, 0, none⟩)] 81)).alloc (.cells #[.int .i64 (9 - (d : Int))] 3)).alloc (.cells #[.slice none 0 0] 23)).heap[w.heap.size]? = some (.cells #[.pointer (some ⟨b, 0, none⟩)] 81 (0, 0)) := by
    rw [heap_alloc_old _ _ (by simp; omega), heap_alloc_old _ _ (by simp)]
    exact heap_alloc_new _ _
  have e2 : (((w.alloc (.cells #[.pointer (some ⟨b, 0, none⟩)] 81)).alloc (.cells #[.int .i64 (9 - (d : Int))] 3)).alloc (.cells #[.slice none 0 0] 23)).heap[w.heap.size + 1]? = some (.cells #[.int .i64 (9 - (d : Int))] 3 (0, 0)) := by
    rw [heap_alloc_old _ _ (by simp)]
    have h := heap_alloc_new (w.alloc (.cells #[.pointer (some ⟨b, 0, none⟩)] 81)) (.cells #[.int .i64 (9 - (d : Int))] 3)
    rw [World.size_alloc] at h
    exact h
  have e3 : (((w.alloc (.cells #[.pointer (some ⟨b, 0, none⟩)] 81)).alloc (.cells #[.int .i64 (9 - (d : Int))] 3)).alloc (.cells #[.slice none 0 0] 23)).heap[w.heap.size + 1 + 1]? = some (.cells #[.slice none 0 0] 23 (0, 0)) := by
    have h := heap_alloc_new ((w.alloc (.cells #[.pointer (some ⟨b, 0, none⟩)] 81)).alloc (.cells #[.int .i64 (9 - (d : Int))] 3)) (.cells #[.slice none 0 0] 23)
    rw [World.size_alloc, World.size_alloc] at h
    exact h
  generalize ((w.alloc (.cells #[.pointer (some ⟨b, 0, none⟩)] 81)).alloc (.cells #[.int .i64 (9 - (d : Int))] 3)).alloc (.cells #[.slice none 0 0] 23) = u at *
  obtain ⟨B, rfl, rfl, hlb, hpb, hdk, rfl⟩ : ∃ B : SB, B.w0 = w ∧ B.b = b ∧ B.lb = w.heap.size + 1 + 1 ∧ B.pb = w.heap.size ∧ B.dk = w.heap.size + 1 ∧ B.d = d := ⟨⟨w, b, w.heap.size + 1 + 1, w.heap.size, w.heap.size + 1, d, hbl, by omega, by omega, by omega, by omega, by omega⟩, rfl, rfl, rfl, rfl, rfl, rfl⟩
  rw [← hpb] at e1
  rw [← hdk] at e2
  rw [← hlb] at e3
  have C := Lib.hid (all_stmts B hd ih u p ⟨PFr.of b3, e1, e2, e3, StRow.nil_ _ _ _ _, fun h => by simp [Value.ownBlock] at h, fun h => by simp [Value.ownBlock] at h, fun h => by simp [Value.ownBlock] at h⟩ (H.out.stays b3) hl HV.out)
  rw [← hlb, ← hdk, ← hpb]
  have c2 : u.cell? ⟨B.pb, 0, none⟩ = some (.pointer (some ⟨B.b, 0, none⟩)) := (cell_of_block e1 0).trans rfl
  have hmf : ∀ (fn : Fn) (first cap : Array Value) (u : World), (Instr.makeFunc fn first cap).run Tryd.prog u = .ok (.func fn first cap) u := fun _ _ _ _ => rfl
  have zp := (Array.getElem?_eq_some_iff.1 e1).1
  clear e1 e2 e3 b1 b2 b3 H HV hlb hdk hpb
  go_upto_region 3 with (go_at_call 47; refine C.out.mono ?_; rintro e w4 ⟨rfl, ⟨va, hS⟩, h4⟩; have HS := Lib.hid hS; have rl : w4.cell? ⟨B.lb, 0, none⟩ = some va := (cell_of_block hS.rl 0).trans rfl; have zl := (Array.getElem?_eq_some_iff.1 hS.rl).1; clear hS)
  go_wp2_with fail
  go_ret
  exact ⟨va, rfl, HS.out.row.whole (fun k hk hkl => ⟨hk.1, hkl⟩) (fun k h1 h2 h3 => ⟨h1, h2⟩), h4, HS.out.fr⟩
end Go.Proofs.YtpbflgemhcaooaaDoor
/- A literal map from texts to numbers, made entry by entry, and asked. -/
namespace Go.Proofs.YtpbflgemhcaooaaDoor
open Go.RowKit
set_option linter.unusedSectionVars false
set_option linter.unusedSimpArgs false
def entS (i : Nat) (kv : List UInt8 × Int) : MapEntry := { key := .string ⟨kv.1.toArray⟩, val := .int .i64 kv.2, born := i }
def entsFrom : Nat → List (List UInt8 × Int) → List MapEntry
  | _, [] => []
  | i, kv :: r => entS i kv :: entsFrom (i + 1) r
def lookK (x : List UInt8) : List (List UInt8 × Int) → Nat → Option (Nat × Value)
  | [], _ => none
  | kv :: r, i => if x = kv.1 then some (i, .int .i64 kv.2) else lookK x r (i + 1)
/-- what a key leads to; 0 where it is not there -/
def valK (x : List UInt8) : List (List UInt8 × Int) → Int
  | [] => 0
  | kv :: r => if x = kv.1 then kv.2 else valK x r
theorem heap_set_newS (w : World) (o o' : Obj) : ({ w.alloc o with heap := (w.alloc o).heap.setIfInBounds w.heap.size o' } : World) = w.alloc o' := by
  simp only [World.alloc]
  congr 1
  apply Array.ext_getElem?
  intro i
  simp only [Array.getElem?_setIfInBounds, Array.size_push, Array.getElem?_push]
  split
  · rename_i h; subst h; simp
  · rename_i h; simp [Ne.symm h]
theorem bytes_beq (x y : List UInt8) : ((⟨x.toArray⟩ : ByteArray) == ⟨y.toArray⟩) = decide (x = y) := by
  have e : ((⟨x.toArray⟩ : ByteArray) == ⟨y.toArray⟩) = (x == y) := by
    show (x.toArray == y.toArray) = _
    simp
  rw [e]
  by_cases h : x = y
  · rw [decide_eq_true h, beq_iff_eq]; exact h
  · rw [decide_eq_false h, beq_eq_false_iff_ne]; exact h
theorem find_now (x : List UInt8) : ∀ (l : List (List UInt8 × Int)) (b i : Nat), Instr.findNow .string (.string ⟨x.toArray⟩) (entsFrom b l) i = some (lookK x l i)
  | [], b, i => rfl
  | kv :: r, b, i => by
    unfold entsFrom Instr.findNow lookK
    show (match some ((⟨x.toArray⟩ : ByteArray) == ⟨kv.1.toArray⟩) with | some true => _ | some false => _ | none => _) = _
    rw [bytes_beq]
    by_cases h : x = kv.1
    · rw [if_pos h, decide_eq_true h]; rfl
    · rw [if_neg h, decide_eq_false h]; exact find_now x r (b + 1) (i + 1)
theorem entsFrom_snoc : ∀ (l : List (List UInt8 × Int)) (b : Nat) (kv : List UInt8 × Int), entsFrom b (l ++ [kv]) = entsFrom b l ++ [entS (b + l.length) kv]
  | [], b, kv => by simp [entsFrom]
  | x :: l, b, kv => by
    have := entsFrom_snoc l (b + 1) kv
    simp only [List.cons_append, entsFrom, this, List.length_cons]
    rw [show b + 1 + l.length = b + (l.length + 1) by omega]
section
variable (P : Program) (t : TypeId) (kt et : TypeId) (ht : P.underlying t = some (.map kt et)) (hk : P.underlying kt = some .string)
include ht hk
theorem find_str (x : List UInt8) (l : List (List UInt8 × Int)) (w : World) : (Instr.findKey kt (.string ⟨x.toArray⟩) (entsFrom 0 l)).run P w = .ok (lookK x l 0) w := by
  simp [Instr.findKey, run_underlying hk, find_now]
theorem chkS (em : Bool) (x : List UInt8) (hx : x.length ≤ 281474976710656) (w : World) : (Instr.checkKey em 10000 kt (.string ⟨x.toArray⟩)).run P w = .ok () w :=
  (Maps.string_keyed hk).check w em (WideMaps.keyOf_string_mk hk (by show x.toArray.size ≤ _; simp [maxLen]; omega))
theorem ins_str (w : World) (l : List (List UInt8 × Int)) (k : List UInt8) (v : Int) (hx : k.length ≤ 281474976710656) (hn : lookK k l 0 = none) :
    (Instr.mapUpdate t (.map (some w.heap.size)) (.string ⟨k.toArray⟩) (.int .i64 v)).run P (w.alloc (.map (entsFrom 0 l).toArray l.length)) = .ok () (w.alloc (.map (entsFrom 0 (l ++ [(k, v)])).toArray (l.length + 1))) := by
  have h0 : (w.alloc (.map (entsFrom 0 l).toArray l.length)).heap[w.heap.size]? = some (.map (entsFrom 0 l).toArray l.length) := heap_alloc_new w _
  have hs : ChangeMaps.setBlock (w.alloc (.map (entsFrom 0 l).toArray l.length)) w.heap.size (.map (entsFrom 0 (l ++ [(k, v)])).toArray (l.length + 1)) = w.alloc (.map (entsFrom 0 (l ++ [(k, v)])).toArray (l.length + 1)) := heap_set_newS w _ _
  have hf := find_str P t kt et ht hk k l (w.alloc (.map (entsFrom 0 l).toArray l.length))
  rw [hn] at hf
  have hc := chkS P t kt et ht hk false k hx (w.alloc (.map (entsFrom 0 l).toArray l.length))
  have e : (entsFrom 0 l).toArray.push (entS l.length (k, v)) = (entsFrom 0 (l ++ [(k, v)])).toArray := by
    rw [entsFrom_snoc, Nat.zero_add]
    simp
  rw [← hs, ← e]
  simp [Instr.mapUpdate, run_underlying ht, MapKept.run_getObj_map h0, hc, hf, MapKept.run_setObj_map _ h0, Result.andThen, entS]
  rfl
theorem look_str (w : World) (l : List (List UInt8 × Int)) (x : List UInt8) (hx : x.length ≤ 281474976710656) (hz : (zeroValue et).run P (w.alloc (.map (entsFrom 0 l).toArray l.length)) = .ok (.int .i64 0) (w.alloc (.map (entsFrom 0 l).toArray l.length))) :
    (Instr.lookup t (.map (some w.heap.size)) (.string ⟨x.toArray⟩) false).run P (w.alloc (.map (entsFrom 0 l).toArray l.length)) = .ok (.int .i64 (valK x l)) (w.alloc (.map (entsFrom 0 l).toArray l.length)) := by
  have h0 : (w.alloc (.map (entsFrom 0 l).toArray l.length)).heap[w.heap.size]? = some (.map (entsFrom 0 l).toArray l.length) := heap_alloc_new w _
  have hf := find_str P t kt et ht hk x l (w.alloc (.map (entsFrom 0 l).toArray l.length))
  have hc := fun em => chkS P t kt et ht hk em x hx (w.alloc (.map (entsFrom 0 l).toArray l.length))
  have hv : ∀ (l : List (List UInt8 × Int)) (i : Nat), (match lookK x l i with | some (_, v) => v | none => .int .i64 0) = Value.int .i64 (valK x l) := fun l => by
    induction l with
    | nil => intro i; rfl
    | cons kv r ih =>
      intro i
      unfold lookK valK
      by_cases h : x = kv.1
      · rw [if_pos h, if_pos h]
      · rw [if_neg h, if_neg h]; exact ih _
  have hv0 := hv l 0
  cases hl : lookK x l 0 with
  | none =>
    rw [hl] at hf hv0
    simp only at hv0
    rw [← hv0]
    simp [Instr.lookup, run_underlying ht, MapKept.run_getObj_map h0, hc, hf, hz, Result.andThen]
  | some p =>
    rw [hl] at hf hv0
    obtain ⟨i, v⟩ := p
    simp only at hv0
    rw [← hv0]
    simp [Instr.lookup, run_underlying ht, MapKept.run_getObj_map h0, hc, hf, hz, Result.andThen]
end
end Go.Proofs.YtpbflgemhcaooaaDoor
