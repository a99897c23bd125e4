import Derived.WalkKit
import Derived.Deep.Draws
import Derived.Test.YtpbflgemhcaooaaDoorFlat
/- How values in memory read as plain data. -/
namespace Go.Proofs.YtpbflgemhcaooaaDoor
open Go.RowKit

/-- the slice value v: n elements of 'size' cells each, their cells xs, in a block below B -/
def SL (w : World) (B size : Nat) (v : Value) (n : Nat) (xs : List Value) : Prop :=
  xs.length = n * size ∧ ∃ (A : Option Addr) (c : Nat), v = .slice A n c ∧ n ≤ c ∧ c ≤ maxLen ∧ (A = none → c = 0) ∧
    (0 < n → ∃ b o, A = some ⟨b, o, none⟩ ∧ b < B ∧ ∀ j u, xs[j]? = some u → w.cell? ⟨b, o + j, none⟩ = some u)

section
variable {w w' : World} {B B' size n : Nat} {v : Value} {xs : List Value}
theorem SL.nil_ (w : World) (B size : Nat) : SL w B size (.slice none 0 0) 0 [] :=
  ⟨by simp, none, 0, rfl, Nat.le_refl _, by simp [maxLen], fun _ => rfl, fun h => absurd h (by omega)⟩
theorem SL.below (h : SL w B size v n xs) (hb : Below B w w') : SL w' B size v n xs := by
  obtain ⟨h1, A, c, h2, h3, h4, h5, h6⟩ := h
  refine ⟨h1, A, c, h2, h3, h4, h5, fun hn => ?_⟩
  obtain ⟨b, o, e, hlt, hc⟩ := h6 hn
  exact ⟨b, o, e, hlt, fun j u hu => (hb.cell (p := ⟨b, o + j, none⟩) hlt).trans (hc j u hu)⟩
theorem SL.more (h : SL w B size v n xs) (hB : B ≤ B') : SL w B' size v n xs := by
  obtain ⟨h1, A, c, h2, h3, h4, h5, h6⟩ := h
  refine ⟨h1, A, c, h2, h3, h4, h5, fun hn => ?_⟩
  obtain ⟨b, o, e, hlt, hc⟩ := h6 hn
  exact ⟨b, o, e, by omega, hc⟩
/-- a new block, whole -/
theorem SL.new (w : World) (cs : List Value) (t : TypeId) (k : Nat) (hl : cs.length = n * size) (hm : n ≤ maxLen)
    (hw : w.heap[k]? = some (.cells cs.toArray t)) (hk : k < B) : SL w B size (.slice (some ⟨k, 0, none⟩) n n) n cs := by
  refine ⟨hl, _, _, rfl, Nat.le_refl _, hm, (fun h => by cases h), fun hn => ⟨k, 0, rfl, hk, fun j u hu => ?_⟩⟩
  simp [World.cell?, hw, hu]
end

def RInts (w : World) (B : Nat) (v : Value) (l : List Int) : Prop := SL w B 1 v l.length (l.map (Value.int .i64))
def RBools (w : World) (B : Nat) (v : Value) (l : List Bool) : Prop := SL w B 1 v l.length (l.map Value.bool)
def cellsI (i : Ev.Instr) : List Value := [.int .i64 i.op, .int .i64 i.d, .int .i64 i.a, .int .i64 i.b, .int .i64 i.c, .int .i64 i.imm]
def RCode (w : World) (B : Nat) (v : Value) (l : List Ev.Instr) : Prop := SL w B 6 v l.length (l.flatMap cellsI)
def cellsV (x : Ev.Vr) : List Value := [.string ⟨x.name.toArray⟩, .bool x.secret, .int .i64 x.size]
def RVars (w : World) (B : Nat) (v : Value) (l : List Ev.Vr) : Prop := SL w B 3 v l.length (l.flatMap cellsV)
theorem RInts.lit {W : World} {k n : Nat} {cs : Array Value} {t : TypeId} {l : List Int} (hk : k = W.heap.size) (hn : n = l.length) (hc : cs.toList = l.map (Value.int .i64)) (hm : n ≤ maxLen) :
    RInts (W.alloc (.cells cs t)) (W.alloc (.cells cs t)).heap.size (.slice (some ⟨k, 0, none⟩) n n) l := by
  subst hk hn
  obtain ⟨c⟩ := cs
  simp only at hc
  subst hc
  exact SL.new _ _ t _ (by simp) hm (heap_alloc_new W _) (by simp)
def RBytes (w : World) (B : Nat) (v : Value) (l : List Int) : Prop := SL w B 1 v l.length (l.map (Value.int .u8))
theorem RBytes.lit {W : World} {k n : Nat} {cs : Array Value} {t : TypeId} {l : List Int} (hk : k = W.heap.size) (hn : n = l.length) (hc : cs.toList = l.map (Value.int .u8)) (hm : n ≤ maxLen) :
    RBytes (W.alloc (.cells cs t)) (W.alloc (.cells cs t)).heap.size (.slice (some ⟨k, 0, none⟩) n n) l := by
  subst hk hn
  obtain ⟨c⟩ := cs
  simp only at hc
  subst hc
  exact SL.new _ _ t _ (by simp) hm (heap_alloc_new W _) (by simp)
theorem RBytes.str {P : Program} {w : World} {B : Nat} {v : Value} {l : List Int} (h : RBytes w B v l) (src e : TypeId) (hs : P.underlying src = some (.slice e)) (he : P.underlying e = some (.int .u8)) (dst : TypeId) (hd : P.underlying dst = some .string) :
    (convert src dst v).run P w = .ok (.string (strOfNums l)) w := by
  obtain ⟨hl, A, c, rfl, h1, h2, h3, h4⟩ := h
  by_cases h0 : l.length = 0
  · have : l = [] := List.eq_nil_of_length_eq_zero h0
    subst this
    cases A with
    | none => exact run_convert_bytes_nil w src e hs he _ _ dst hd
    | some a =>
      rw [run_convert_bytes_string w src dst e _ _ c hs he hd]
      have : (loadCells a 0).run P w = .ok #[] w := by
        have := run_loadCells_list (P := P) w a [] (fun j v hj => by simp at hj)
        simpa using this
      show (Conv.bytesToString (.slice (some a) 0 c)).run P w = _
      rw [run_bytesToString w a 0 c [] (by simpa using this)]
      rfl
  · obtain ⟨b, o, rfl, _, hc⟩ := h4 (by omega)
    exact run_convert_bytes_arg w src e hs he b o l.length c l rfl (fun i hi => hc i _ (by simp [List.getD, hi])) dst hd
theorem SL.at_ {w w' : World} {B size n : Nat} {v : Value} {xs : List Value} (h : SL w B size v n xs) (hb : Below w.heap.size w w') (hB : B ≤ w.heap.size) : SL w' w'.heap.size size v n xs := ((h.more hB).below hb).more hb.size
theorem RInts.nil_ {W : World} {B : Nat} {l : List Int} (h : l = []) : RInts W B (.slice none 0 0) l := by subst h; exact SL.nil_ _ _ _
end Go.Proofs.YtpbflgemhcaooaaDoor
