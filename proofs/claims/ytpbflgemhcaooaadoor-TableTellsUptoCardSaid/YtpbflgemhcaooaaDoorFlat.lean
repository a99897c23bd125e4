import Derived.Test.YtpbflgemhcaooaaDoorWordB
/- The plain models: what the functions of chapters 1, 2, 7, 8, 11 compute, over lists and integers. -/
namespace Ev
structure Instr where
  op : Int
  d : Int
  a : Int
  b : Int
  c : Int
  imm : Int
structure Vr where
  name : List UInt8
  secret : Bool
  size : Int
structure Flat where
  code : List Instr
  secret : List Bool
  params : Int
  arrays : List Vr
structure Given where
  words : List Int
  arrays : List (List Int)
structure Ended where
  word : Int
  trap : Bool
  arrays : List (List Int)
structure Leak where
  pc : Int
  op : Int
  vals : List Int
structure Ran where
  ended : Ended
  err : Int
  steps : Int
  mode : Int
  leaks : List Leak
structure Image where
  bytes : List UInt8
  params : Int
  arrays : List Vr
instance : Inhabited Instr := ⟨⟨0, 0, 0, 0, 0, 0⟩⟩
instance : Inhabited Vr := ⟨⟨[], false, 0⟩⟩

/-! ### Words -/
def low (n : Int) : Nat := (n % 4294967296).toNat
theorem low_lt (n : Int) : low n < 4294967296 := by unfold low; omega
def isWord (n : Int) : Bool := decide (0 ≤ n) && decide (n ≤ 4294967295)
/-- what an op makes of two words -/
def twoN (op : Int) (x y : Nat) : Nat :=
  if op = 1 then wadd x y
  else if op = 2 then wsub x y
  else if op = 3 then x &&& y
  else if op = 4 then x ||| y
  else if op = 5 then x ^^^ y
  else if op = 6 then wshl x (y % 32)
  else if op = 7 then wshr x (y % 32)
  else if op = 8 then x * y % 4294967296
  else if op = 9 then (if y = 0 then 4294967295 else x / y)
  else if op = 10 then (if y = 0 then x else x % y)
  else if op = 11 then (if x < y then 1 else 0)
  else if op = 12 then (if x = y then 1 else 0)
  else 0
def two (op a b : Int) : Int := (twoN op (low a) (low b) : Int)
/-- ErrKind, if there is no such op -/
def twoErr (op : Int) : Int := if 1 ≤ op ∧ op ≤ 12 then 0 else 1
def sel (a b c : Int) : Int := if low a = 0 then (low c : Int) else (low b : Int)

/-! ### Tables -/
def seenOf (t : List Int) (op : Int) : Int := t.getD op.toNat 0
def all (op : Int) : Int :=
  if 1 ≤ op ∧ op ≤ 12 then 3 else if op = 13 then 7 else if op = 15 then 1 else if op = 16 then 3 else if op = 17 then 3 else 0
/-- All of an op in a table: of a load A alone -/
def most (op : Int) : Int := if op = 16 then 1 else all op
def hasBit (n : Int) (k : Nat) : Bool := (n % 2 ^ (k + 1)) / 2 ^ k == 1
def subBits (n m : Int) : Bool := decide (0 ≤ n) && n.toNat ||| m.toNat == m.toNat
def wrongFrom (t : List Int) : Nat → Nat → Int
  | 0, _ => 0
  | n + 1, op => if subBits (seenOf t op) (most op) then wrongFrom t n (op + 1) else 3
def wrong (t : List Int) : Int := if seenOf t 0 ≠ 0 then 1 else wrongFrom t 17 1

/-! ### Flat instructions -/
def reads (i : Instr) : List Int :=
  if 1 ≤ i.op ∧ i.op ≤ 12 then [i.a, i.b]
  else if i.op = 13 then [i.a, i.b, i.c]
  else if i.op = 17 then [i.a, i.d]
  else if i.op = 15 ∨ i.op = 16 ∨ i.op = 19 ∨ i.op = 20 then [i.a]
  else []
def makes (i : Instr) : Bool := decide (1 ≤ i.op) && decide (i.op ≤ 16)
def isPlace (f : Flat) (p : Int) : Bool := decide (0 ≤ p) && decide (p < f.secret.length)
def sec (s : List Bool) (p : Int) : Bool := s.getD p.toNat false
def arrSec (l : List Vr) (b : Int) : Bool := (l.getD b.toNat default).secret
def numbers (f : Flat) (k : Nat) (i : Instr) : Bool :=
  (reads i).all (isPlace f) && (!makes i || isPlace f i.d) &&
  (if i.op = 14 then isWord i.imm
   else if i.op = 16 ∨ i.op = 17 then decide (0 ≤ i.b) && decide (i.b < f.arrays.length)
   else if i.op = 18 ∨ i.op = 19 then decide ((k : Int) < i.imm) && decide (i.imm < f.code.length)
   else true)
def secrets (f : Flat) (i : Instr) : Bool :=
  if i.op = 16 then sec f.secret i.a || (arrSec f.arrays i.b && !sec f.secret i.d)
  else if i.op = 17 then sec f.secret i.a || (sec f.secret i.d && !arrSec f.arrays i.b)
  else if i.op = 19 then sec f.secret i.a
  else if i.op = 20 then false
  else (reads i).any (sec f.secret) && !sec f.secret i.d
def checkAt (f : Flat) (k : Nat) (i : Instr) : Int :=
  if ¬ (1 ≤ i.op ∧ i.op ≤ 21) then 1 else if numbers f k i = false then 3 else if secrets f i then 10 else 0
def checkFrom (f : Flat) : Nat → List Instr → Int × Int
  | _, [] => (0, -1)
  | k, i :: r => if checkAt f k i = 0 then checkFrom f (k + 1) r else (checkAt f k i, k)
def lastOp (f : Flat) : Int := (f.code.getD (f.code.length - 1) default).op
def check (f : Flat) : Int × Int :=
  if f.code.length < 1 ∨ 12000 < f.code.length ∨ f.params < 0 ∨ f.secret.length < f.params then (4, -1)
  else if (checkFrom f 0 f.code).1 ≠ 0 then checkFrom f 0 f.code
  else if lastOp f = 20 ∨ lastOp f = 21 ∨ lastOp f = 18 then (0, -1) else (8, (f.code.length : Int) - 1)

/-! ### Runs -/
def val (v : List Int) (p : Int) : Int := v.getD p.toNat 0
def seen (t : List Int) (i : Instr) (v : List Int) (al : Bool) : List Int :=
  if i.op = 19 then [val v i.a]
  else if ¬ (1 ≤ i.op ∧ i.op ≤ 17) then []
  else
    let w := if al then all i.op else seenOf t i.op
    (if hasBit w 0 then [val v i.a] else []) ++
    (if hasBit w 1 then (if i.op = 17 then [val v i.d] else if i.op = 16 then [] else [val v i.b]) else []) ++
    (if hasBit w 2 then [val v i.c] else [])
structure St where
  v : List Int
  arrs : List (List Int)
  mode : Int
def arrAt (l : List (List Int)) (b n : Int) : Int := if n < (l.getD b.toNat []).length then val (l.getD b.toNat []) n else 0
/-- one instruction; where it goes on; none: it has ended -/
def step (i : Instr) (k : Nat) (s : St) : St × Option Nat :=
  if i.op ≤ 12 then ({ s with v := s.v.set i.d.toNat (two i.op (val s.v i.a) (val s.v i.b)) }, some (k + 1))
  else if i.op = 13 then ({ s with v := s.v.set i.d.toNat (sel (val s.v i.a) (val s.v i.b) (val s.v i.c)) }, some (k + 1))
  else if i.op = 14 then ({ s with v := s.v.set i.d.toNat i.imm }, some (k + 1))
  else if i.op = 15 then ({ s with v := s.v.set i.d.toNat (val s.v i.a) }, some (k + 1))
  else if i.op = 16 then ({ s with v := s.v.set i.d.toNat (arrAt s.arrs i.b (val s.v i.a)) }, some (k + 1))
  else if i.op = 17 then
    ((if val s.v i.a < (s.arrs.getD i.b.toNat []).length then { s with arrs := s.arrs.set i.b.toNat ((s.arrs.getD i.b.toNat []).set (val s.v i.a).toNat (val s.v i.d)) } else s), some (k + 1))
  else if i.op = 18 then (s, some i.imm.toNat)
  else if i.op = 19 then (s, some (if val s.v i.a = 0 then i.imm.toNat else k + 1))
  else if i.op = 20 ∨ i.op = 21 then (s, none)
  else if i.op = 22 then ({ s with v := s.v.set i.d.toNat s.mode, mode := 1 }, some (k + 1))
  else if i.op = 23 then ({ s with mode := val s.v i.a % 2 }, some (k + 1))
  else (s, some (k + 1))
def endOf (i : Instr) (s : St) : Ended := { word := if i.op = 21 then 0 else val s.v i.a, trap := decide (i.op = 21), arrays := s.arrs }
def leak (t : List Int) (i : Instr) (k : Nat) (s : St) (al : Bool) : Leak := { pc := k, op := i.op, vals := seen t i s.v al }
/-- the run of flat instructions, from one on -/
def runFrom (c : List Instr) (t : List Int) : Nat → Nat → St → Ended × List Leak
  | 0, _, s => (endOf default s, [])
  | n + 1, k, s =>
    let i := c.getD k default
    match step i k s with
    | (s', none) => (endOf i s', [leak t i k s false])
    | (s', some k') => ((runFrom c t n k' s').1, leak t i k s false :: (runFrom c t n k' s').2)
def start (n : Nat) (g : Given) : St := { v := (g.words ++ List.replicate (n - g.words.length) 0).take n, arrs := g.arrays, mode := 0 }
def run (f : Flat) (t : List Int) (g : Given) : Ended × List Leak := runFrom f.code t f.code.length 0 (start f.secret.length g)
end Ev
