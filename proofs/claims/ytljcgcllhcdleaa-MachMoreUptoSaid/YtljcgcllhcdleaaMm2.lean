import Derived.Test.YtljcgcllhcdleaaMm1
import Derived.WalkKit
import Derived.Deep.Draws
/- The plain models: what the functions of chapters 1, 2, 7, 8, 11 compute, over lists and integers. -/
namespace Ev
structure Instr where
  op : Int
  d : Int
  a : Int
  b : Int
  c : Int
  imm : Int
structure Vr where
  name : List UInt8
  secret : Bool
  size : Int
structure Flat where
  code : List Instr
  secret : List Bool
  params : Int
  arrays : List Vr
structure Given where
  words : List Int
  arrays : List (List Int)
structure Ended where
  word : Int
  trap : Bool
  arrays : List (List Int)
structure Leak where
  pc : Int
  op : Int
  vals : List Int
structure Ran where
  ended : Ended
  err : Int
  steps : Int
  mode : Int
  leaks : List Leak
structure Image where
  bytes : List UInt8
  params : Int
  arrays : List Vr
instance : Inhabited Instr := ⟨⟨0, 0, 0, 0, 0, 0⟩⟩
instance : Inhabited Vr := ⟨⟨[], false, 0⟩⟩

/-! ### Words -/
def low (n : Int) : Nat := (n % 4294967296).toNat
theorem low_lt (n : Int) : low n < 4294967296 := by unfold low; omega
def isWord (n : Int) : Bool := decide (0 ≤ n) && decide (n ≤ 4294967295)
/-- what an op makes of two words -/
def twoN (op : Int) (x y : Nat) : Nat :=
  if op = 1 then wadd x y
  else if op = 2 then wsub x y
  else if op = 3 then x &&& y
  else if op = 4 then x ||| y
  else if op = 5 then x ^^^ y
  else if op = 6 then wshl x (y % 32)
  else if op = 7 then wshr x (y % 32)
  else if op = 8 then x * y % 4294967296
  else if op = 9 then (if y = 0 then 4294967295 else x / y)
  else if op = 10 then (if y = 0 then x else x % y)
  else if op = 11 then (if x < y then 1 else 0)
  else if op = 12 then (if x = y then 1 else 0)
  else 0
def two (op a b : Int) : Int := (twoN op (low a) (low b) : Int)
/-- ErrKind, if there is no such op -/
def twoErr (op : Int) : Int := if 1 ≤ op ∧ op ≤ 12 then 0 else 1
def sel (a b c : Int) : Int := if low a = 0 then (low c : Int) else (low b : Int)

/-! ### Tables -/
def seenOf (t : List Int) (op : Int) : Int := t.getD op.toNat 0
def all (op : Int) : Int :=
  if 1 ≤ op ∧ op ≤ 12 then 3 else if op = 13 then 7 else if op = 15 then 1 else if op = 16 then 3 else if op = 17 then 3 else 0
/-- All of an op in a table: of a load A alone -/
def most (op : Int) : Int := if op = 16 then 1 else all op
def hasBit (n : Int) (k : Nat) : Bool := (n % 2 ^ (k + 1)) / 2 ^ k == 1
def subBits (n m : Int) : Bool := decide (0 ≤ n) && n.toNat ||| m.toNat == m.toNat
def wrongFrom (t : List Int) : Nat → Nat → Int
  | 0, _ => 0
  | n + 1, op => if subBits (seenOf t op) (most op) then wrongFrom t n (op + 1) else 3
def wrong (t : List Int) : Int := if seenOf t 0 ≠ 0 then 1 else wrongFrom t 17 1

/-! ### Flat instructions -/
def reads (i : Instr) : List Int :=
  if 1 ≤ i.op ∧ i.op ≤ 12 then [i.a, i.b]
  else if i.op = 13 then [i.a, i.b, i.c]
  else if i.op = 17 then [i.a, i.d]
  else if i.op = 15 ∨ i.op = 16 ∨ i.op = 19 ∨ i.op = 20 then [i.a]
  else []
def makes (i : Instr) : Bool := decide (1 ≤ i.op) && decide (i.op ≤ 16)
def isPlace (f : Flat) (p : Int) : Bool := decide (0 ≤ p) && decide (p < f.secret.length)
def sec (s : List Bool) (p : Int) : Bool := s.getD p.toNat false
def arrSec (l : List Vr) (b : Int) : Bool := (l.getD b.toNat default).secret
def numbers (f : Flat) (k : Nat) (i : Instr) : Bool :=
  (reads i).all (isPlace f) && (!makes i || isPlace f i.d) &&
  (if i.op = 14 then isWord i.imm
   else if i.op = 16 ∨ i.op = 17 then decide (0 ≤ i.b) && decide (i.b < f.arrays.length)
   else if i.op = 18 ∨ i.op = 19 then decide ((k : Int) < i.imm) && decide (i.imm < f.code.length)
   else true)
def secrets (f : Flat) (i : Instr) : Bool :=
  if i.op = 16 then sec f.secret i.a || (arrSec f.arrays i.b && !sec f.secret i.d)
  else if i.op = 17 then sec f.secret i.a || (sec f.secret i.d && !arrSec f.arrays i.b)
  else if i.op = 19 then sec f.secret i.a
  else if i.op = 20 then false
  else (reads i).any (sec f.secret) && !sec f.secret i.d
def checkAt (f : Flat) (k : Nat) (i : Instr) : Int :=
  if ¬ (1 ≤ i.op ∧ i.op ≤ 21) then 1 else if numbers f k i = false then 3 else if secrets f i then 10 else 0
def checkFrom (f : Flat) : Nat → List Instr → Int × Int
  | _, [] => (0, -1)
  | k, i :: r => if checkAt f k i = 0 then checkFrom f (k + 1) r else (checkAt f k i, k)
def lastOp (f : Flat) : Int := (f.code.getD (f.code.length - 1) default).op
def check (f : Flat) : Int × Int :=
  if f.code.length < 1 ∨ 12000 < f.code.length ∨ f.params < 0 ∨ f.secret.length < f.params then (4, -1)
  else if (checkFrom f 0 f.code).1 ≠ 0 then checkFrom f 0 f.code
  else if lastOp f = 20 ∨ lastOp f = 21 ∨ lastOp f = 18 then (0, -1) else (8, (f.code.length : Int) - 1)

/-! ### Runs -/
def val (v : List Int) (p : Int) : Int := v.getD p.toNat 0
def seen (t : List Int) (i : Instr) (v : List Int) (al : Bool) : List Int :=
  if i.op = 19 then [val v i.a]
  else if ¬ (1 ≤ i.op ∧ i.op ≤ 17) then []
  else
    let w := if al then all i.op else seenOf t i.op
    (if hasBit w 0 then [val v i.a] else []) ++
    (if hasBit w 1 then (if i.op = 17 then [val v i.d] else if i.op = 16 then [] else [val v i.b]) else []) ++
    (if hasBit w 2 then [val v i.c] else [])
structure St where
  v : List Int
  arrs : List (List Int)
  mode : Int
def arrAt (l : List (List Int)) (b n : Int) : Int := if n < (l.getD b.toNat []).length then val (l.getD b.toNat []) n else 0
/-- one instruction; where it goes on; none: it has ended -/
def step (i : Instr) (k : Nat) (s : St) : St × Option Nat :=
  if i.op ≤ 12 then ({ s with v := s.v.set i.d.toNat (two i.op (val s.v i.a) (val s.v i.b)) }, some (k + 1))
  else if i.op = 13 then ({ s with v := s.v.set i.d.toNat (sel (val s.v i.a) (val s.v i.b) (val s.v i.c)) }, some (k + 1))
  else if i.op = 14 then ({ s with v := s.v.set i.d.toNat i.imm }, some (k + 1))
  else if i.op = 15 then ({ s with v := s.v.set i.d.toNat (val s.v i.a) }, some (k + 1))
  else if i.op = 16 then ({ s with v := s.v.set i.d.toNat (arrAt s.arrs i.b (val s.v i.a)) }, some (k + 1))
  else if i.op = 17 then
    ((if val s.v i.a < (s.arrs.getD i.b.toNat []).length then { s with arrs := s.arrs.set i.b.toNat ((s.arrs.getD i.b.toNat []).set (val s.v i.a).toNat (val s.v i.d)) } else s), some (k + 1))
  else if i.op = 18 then (s, some i.imm.toNat)
  else if i.op = 19 then (s, some (if val s.v i.a = 0 then i.imm.toNat else k + 1))
  else if i.op = 20 ∨ i.op = 21 then (s, none)
  else if i.op = 22 then ({ s with v := s.v.set i.d.toNat s.mode, mode := 1 }, some (k + 1))
  else if i.op = 23 then ({ s with mode := val s.v i.a % 2 }, some (k + 1))
  else (s, some (k + 1))
def endOf (i : Instr) (s : St) : Ended := { word := if i.op = 21 then 0 else val s.v i.a, trap := decide (i.op = 21), arrays := s.arrs }
def leak (t : List Int) (i : Instr) (k : Nat) (s : St) (al : Bool) : Leak := { pc := k, op := i.op, vals := seen t i s.v al }
/-- the run of flat instructions, from one on -/
def runFrom (c : List Instr) (t : List Int) : Nat → Nat → St → Ended × List Leak
  | 0, _, s => (endOf default s, [])
  | n + 1, k, s =>
    let i := c.getD k default
    match step i k s with
    | (s', none) => (endOf i s', [leak t i k s false])
    | (s', some k') => ((runFrom c t n k' s').1, leak t i k s false :: (runFrom c t n k' s').2)
def start (n : Nat) (g : Given) : St := { v := (g.words ++ List.replicate (n - g.words.length) 0).take n, arrs := g.arrays, mode := 0 }
def run (f : Flat) (t : List Int) (g : Given) : Ended × List Leak := runFrom f.code t f.code.length 0 (start f.secret.length g)
end Ev
/- How values in memory read as plain data. -/
namespace Go.Proofs.Ytljcgcllhcdleaa
open Go.RowKit

/-- the slice value v: n elements of 'size' cells each, their cells xs, in a block below B -/
def SL (w : World) (B size : Nat) (v : Value) (n : Nat) (xs : List Value) : Prop :=
  xs.length = n * size ∧ ∃ (A : Option Addr) (c : Nat), v = .slice A n c ∧ n ≤ c ∧ c ≤ maxLen ∧ (A = none → c = 0) ∧
    (0 < n → ∃ b o, A = some ⟨b, o, none⟩ ∧ b < B ∧ ∀ j u, xs[j]? = some u → w.cell? ⟨b, o + j, none⟩ = some u)

section
variable {w w' : World} {B B' size n : Nat} {v : Value} {xs : List Value}
theorem SL.nil_ (w : World) (B size : Nat) : SL w B size (.slice none 0 0) 0 [] :=
  ⟨by simp, none, 0, rfl, Nat.le_refl _, by simp [maxLen], fun _ => rfl, fun h => absurd h (by omega)⟩
theorem SL.below (h : SL w B size v n xs) (hb : Below B w w') : SL w' B size v n xs := by
  obtain ⟨h1, A, c, h2, h3, h4, h5, h6⟩ := h
  refine ⟨h1, A, c, h2, h3, h4, h5, fun hn => ?_⟩
  obtain ⟨b, o, e, hlt, hc⟩ := h6 hn
  exact ⟨b, o, e, hlt, fun j u hu => (hb.cell (p := ⟨b, o + j, none⟩) hlt).trans (hc j u hu)⟩
theorem SL.more (h : SL w B size v n xs) (hB : B ≤ B') : SL w B' size v n xs := by
  obtain ⟨h1, A, c, h2, h3, h4, h5, h6⟩ := h
  refine ⟨h1, A, c, h2, h3, h4, h5, fun hn => ?_⟩
  obtain ⟨b, o, e, hlt, hc⟩ := h6 hn
  exact ⟨b, o, e, by omega, hc⟩
/-- a new block, whole -/
theorem SL.new (w : World) (cs : List Value) (t : TypeId) (k : Nat) (hl : cs.length = n * size) (hm : n ≤ maxLen)
    (hw : w.heap[k]? = some (.cells cs.toArray t)) (hk : k < B) : SL w B size (.slice (some ⟨k, 0, none⟩) n n) n cs := by
  refine ⟨hl, _, _, rfl, Nat.le_refl _, hm, (fun h => by cases h), fun hn => ⟨k, 0, rfl, hk, fun j u hu => ?_⟩⟩
  simp [World.cell?, hw, hu]
end

def RInts (w : World) (B : Nat) (v : Value) (l : List Int) : Prop := SL w B 1 v l.length (l.map (Value.int .i64))
def RBools (w : World) (B : Nat) (v : Value) (l : List Bool) : Prop := SL w B 1 v l.length (l.map Value.bool)
def cellsI (i : Ev.Instr) : List Value := [.int .i64 i.op, .int .i64 i.d, .int .i64 i.a, .int .i64 i.b, .int .i64 i.c, .int .i64 i.imm]
def RCode (w : World) (B : Nat) (v : Value) (l : List Ev.Instr) : Prop := SL w B 6 v l.length (l.flatMap cellsI)
def cellsV (x : Ev.Vr) : List Value := [.string ⟨x.name.toArray⟩, .bool x.secret, .int .i64 x.size]
def RVars (w : World) (B : Nat) (v : Value) (l : List Ev.Vr) : Prop := SL w B 3 v l.length (l.flatMap cellsV)
theorem RInts.lit {W : World} {k n : Nat} {cs : Array Value} {t : TypeId} {l : List Int} (hk : k = W.heap.size) (hn : n = l.length) (hc : cs.toList = l.map (Value.int .i64)) (hm : n ≤ maxLen) :
    RInts (W.alloc (.cells cs t)) (W.alloc (.cells cs t)).heap.size (.slice (some ⟨k, 0, none⟩) n n) l := by
  subst hk hn
  obtain ⟨c⟩ := cs
  simp only at hc
  subst hc
  exact SL.new _ _ t _ (by simp) hm (heap_alloc_new W _) (by simp)
def RBytes (w : World) (B : Nat) (v : Value) (l : List Int) : Prop := SL w B 1 v l.length (l.map (Value.int .u8))
theorem RBytes.lit {W : World} {k n : Nat} {cs : Array Value} {t : TypeId} {l : List Int} (hk : k = W.heap.size) (hn : n = l.length) (hc : cs.toList = l.map (Value.int .u8)) (hm : n ≤ maxLen) :
    RBytes (W.alloc (.cells cs t)) (W.alloc (.cells cs t)).heap.size (.slice (some ⟨k, 0, none⟩) n n) l := by
  subst hk hn
  obtain ⟨c⟩ := cs
  simp only at hc
  subst hc
  exact SL.new _ _ t _ (by simp) hm (heap_alloc_new W _) (by simp)
theorem RBytes.str {P : Program} {w : World} {B : Nat} {v : Value} {l : List Int} (h : RBytes w B v l) (src e : TypeId) (hs : P.underlying src = some (.slice e)) (he : P.underlying e = some (.int .u8)) (dst : TypeId) (hd : P.underlying dst = some .string) :
    (convert src dst v).run P w = .ok (.string (strOfNums l)) w := by
  obtain ⟨hl, A, c, rfl, h1, h2, h3, h4⟩ := h
  by_cases h0 : l.length = 0
  · have : l = [] := List.eq_nil_of_length_eq_zero h0
    subst this
    cases A with
    | none => exact run_convert_bytes_nil w src e hs he _ _ dst hd
    | some a =>
      rw [run_convert_bytes_string w src dst e _ _ c hs he hd]
      have : (loadCells a 0).run P w = .ok #[] w := by
        have := run_loadCells_list (P := P) w a [] (fun j v hj => by simp at hj)
        simpa using this
      show (Conv.bytesToString (.slice (some a) 0 c)).run P w = _
      rw [run_bytesToString w a 0 c [] (by simpa using this)]
      rfl
  · obtain ⟨b, o, rfl, _, hc⟩ := h4 (by omega)
    exact run_convert_bytes_arg w src e hs he b o l.length c l rfl (fun i hi => hc i _ (by simp [List.getD, hi])) dst hd
theorem SL.at_ {w w' : World} {B size n : Nat} {v : Value} {xs : List Value} (h : SL w B size v n xs) (hb : Below w.heap.size w w') (hB : B ≤ w.heap.size) : SL w' w'.heap.size size v n xs := ((h.more hB).below hb).more hb.size
theorem RInts.nil_ {W : World} {B : Nat} {l : List Int} (h : l = []) : RInts W B (.slice none 0 0) l := by subst h; exact SL.nil_ _ _ _
end Go.Proofs.Ytljcgcllhcdleaa
/- Small laws on memory that every walk uses. -/
namespace Go.Proofs.Ytljcgcllhcdleaa
open Go.RowKit
/-- behind a call: what lay there reads as it did -/
theorem bcell {B : Nat} {W w1 : World} (hb : Below B W w1) : (∀ b o, b < B → w1.cell? ⟨b, o, none⟩ = W.cell? ⟨b, o, none⟩) ∧ (∀ b o, b < B → w1.frozen? ⟨b, o, none⟩ = W.frozen? ⟨b, o, none⟩) :=
  ⟨fun b o h => hb.cell (p := ⟨b, o, none⟩) h, fun b o h => hb.frozen (p := ⟨b, o, none⟩) h⟩
theorem bfacts {B : Nat} {W w1 : World} (hb : Below B W w1) : (∀ b o, b < B → w1.cell? ⟨b, o, none⟩ = W.cell? ⟨b, o, none⟩) ∧ (∀ b o, b < B → w1.frozen? ⟨b, o, none⟩ = W.frozen? ⟨b, o, none⟩) ∧ W.heap.size ≤ w1.heap.size :=
  ⟨fun b o h => hb.cell (p := ⟨b, o, none⟩) h, fun b o h => hb.frozen (p := ⟨b, o, none⟩) h, hb.size⟩
end Go.Proofs.Ytljcgcllhcdleaa
/- An element of a slice that reads as a list. -/
namespace Go.Proofs.Ytljcgcllhcdleaa
open Go.RowKit
theorem flatMap_at {α β : Type} {size : Nat} (f : α → List β) (hf : ∀ a, (f a).length = size) : ∀ (l : List α) (k : Nat) (a : α) (j : Nat) (u : β), l[k]? = some a → (f a)[j]? = some u → (l.flatMap f)[k * size + j]? = some u
  | [], k, a, j, u, h, _ => by simp at h
  | x :: r, 0, a, j, u, h, hu => by
    simp at h
    subst h
    have hl := hf x
    simp only [List.flatMap_cons, Nat.zero_mul, Nat.zero_add]
    have hj : j < (f x).length := by
      rcases Nat.lt_or_ge j (f x).length with h1 | h1
      · exact h1
      · rw [List.getElem?_eq_none h1] at hu; cases hu
    rw [List.getElem?_append_left hj]
    exact hu
  | x :: r, k + 1, a, j, u, h, hu => by
    have ih := flatMap_at f hf r k a j u (by simpa using h) hu
    have hl := hf x
    simp only [List.flatMap_cons]
    rw [List.getElem?_append_right (by rw [hl, Nat.succ_mul]; omega)]
    have : (k + 1) * size + j - (f x).length = k * size + j := by rw [hl, Nat.succ_mul]; omega
    rw [this]
    exact ih
theorem SL.form {w : World} {B size n : Nat} {v : Value} {xs : List Value} (h : SL w B size v n xs) : ∃ (A : Option Addr) (c : Nat), v = .slice A n c ∧ n ≤ c ∧ c ≤ maxLen := by
  obtain ⟨_, A, c, rfl, h1, h2, _⟩ := h
  exact ⟨A, c, rfl, h1, h2⟩
/-- the slice's row, where there is an element -/
theorem SL.row {w : World} {B size n : Nat} {v : Value} {xs : List Value} (h : SL w B size v n xs) (hn : 0 < n) :
    ∃ b o c, v = .slice (some ⟨b, o, none⟩) n c ∧ b < B ∧ n ≤ c ∧ c ≤ maxLen ∧ ∀ j u, xs[j]? = some u → w.cell? ⟨b, o + j, none⟩ = some u := by
  obtain ⟨_, A, c, rfl, h1, h2, _, h4⟩ := h
  obtain ⟨b, o, rfl, hb, hc⟩ := h4 hn
  exact ⟨b, o, c, rfl, hb, h1, h2, hc⟩
theorem RInts.at_ {w : World} {B : Nat} {v : Value} {l : List Int} (h : RInts w B v l) {k : Nat} {x : Int} (hk : l[k]? = some x) :
    ∃ b o c, v = .slice (some ⟨b, o, none⟩) l.length c ∧ b < B ∧ k < l.length ∧ l.length ≤ c ∧ c ≤ maxLen ∧ w.cell? ⟨b, o + k, none⟩ = some (.int .i64 x) := by
  have hlt : k < l.length := (List.getElem?_eq_some_iff.1 hk).1
  obtain ⟨b, o, c, e, hb, h1, h2, hc⟩ := SL.row h (by omega)
  exact ⟨b, o, c, e, hb, hlt, h1, h2, hc k _ (by simp [hk])⟩
theorem RBools.at_ {w : World} {B : Nat} {v : Value} {l : List Bool} (h : RBools w B v l) {k : Nat} {x : Bool} (hk : l[k]? = some x) :
    ∃ b o c, v = .slice (some ⟨b, o, none⟩) l.length c ∧ b < B ∧ k < l.length ∧ l.length ≤ c ∧ c ≤ maxLen ∧ w.cell? ⟨b, o + k, none⟩ = some (.bool x) := by
  have hlt : k < l.length := (List.getElem?_eq_some_iff.1 hk).1
  obtain ⟨b, o, c, e, hb, h1, h2, hc⟩ := SL.row h (by omega)
  exact ⟨b, o, c, e, hb, hlt, h1, h2, hc k _ (by simp [hk])⟩
theorem RCode.at_ {w : World} {B : Nat} {v : Value} {l : List Ev.Instr} (h : RCode w B v l) {k : Nat} {i : Ev.Instr} (hk : l[k]? = some i) :
    ∃ b o c, v = .slice (some ⟨b, o, none⟩) l.length c ∧ b < B ∧ k < l.length ∧ l.length ≤ c ∧ c ≤ maxLen ∧ w.cell? ⟨b, o + k * 6, none⟩ = some (.int .i64 i.op) ∧ w.cell? ⟨b, o + k * 6 + 1, none⟩ = some (.int .i64 i.d) ∧
      w.cell? ⟨b, o + k * 6 + 2, none⟩ = some (.int .i64 i.a) ∧ w.cell? ⟨b, o + k * 6 + 3, none⟩ = some (.int .i64 i.b) ∧ w.cell? ⟨b, o + k * 6 + 4, none⟩ = some (.int .i64 i.c) ∧ w.cell? ⟨b, o + k * 6 + 5, none⟩ = some (.int .i64 i.imm) := by
  have hlt : k < l.length := (List.getElem?_eq_some_iff.1 hk).1
  obtain ⟨b, o, c, e, hb, h1, h2, hc⟩ := SL.row h (by omega)
  have hj := fun j u (hu : (cellsI i)[j]? = some u) => hc (k * 6 + j) u (flatMap_at cellsI (fun _ => rfl) l k i j u hk hu)
  simp only [← Nat.add_assoc] at hj
  exact ⟨b, o, c, e, hb, hlt, h1, h2, hj 0 _ rfl, hj 1 _ rfl, hj 2 _ rfl, hj 3 _ rfl, hj 4 _ rfl, hj 5 _ rfl⟩
theorem RVars.at_ {w : World} {B : Nat} {v : Value} {l : List Ev.Vr} (h : RVars w B v l) {k : Nat} {i : Ev.Vr} (hk : l[k]? = some i) :
    ∃ b o c, v = .slice (some ⟨b, o, none⟩) l.length c ∧ b < B ∧ k < l.length ∧ l.length ≤ c ∧ c ≤ maxLen ∧ w.cell? ⟨b, o + k * 3, none⟩ = some (.string ⟨i.name.toArray⟩) ∧ w.cell? ⟨b, o + k * 3 + 1, none⟩ = some (.bool i.secret) ∧
      w.cell? ⟨b, o + k * 3 + 2, none⟩ = some (.int .i64 i.size) := by
  have hlt : k < l.length := (List.getElem?_eq_some_iff.1 hk).1
  obtain ⟨b, o, c, e, hb, h1, h2, hc⟩ := SL.row h (by omega)
  have hj := fun j u (hu : (cellsV i)[j]? = some u) => hc (k * 3 + j) u (flatMap_at cellsV (fun _ => rfl) l k i j u hk hu)
  simp only [← Nat.add_assoc] at hj
  exact ⟨b, o, c, e, hb, hlt, h1, h2, hj 0 _ rfl, hj 1 _ rfl, hj 2 _ rfl⟩
end Go.Proofs.Ytljcgcllhcdleaa
