import Derived.Test.YtpbflgemhcaooaaDoorPt1
/- Chapter 3, plainly: programs, and how the document reads one from a text (evref1.Parse). -/
namespace Ev
open Go
/-- an expression: kind, number, name, arguments -/
inductive Ex where
  | mk (kind n : Int) (name : List UInt8) (args : List Ex)
/-- a statement: kind, number, name, secret, arguments, both branches -/
inductive St1 where
  | mk (kind n : Int) (name : List UInt8) (secret : Bool) (args : List Ex) (thn els : List St1)
namespace Ex
def kind : Ex → Int | mk k _ _ _ => k
def n : Ex → Int | mk _ n _ _ => n
def name : Ex → List UInt8 | mk _ _ s _ => s
def args : Ex → List Ex | mk _ _ _ a => a
def none : Ex := mk 0 0 [] []
end Ex
namespace St1
def kind : St1 → Int | mk k _ _ _ _ _ _ => k
def n : St1 → Int | mk _ n _ _ _ _ _ => n
def name : St1 → List UInt8 | mk _ _ s _ _ _ _ => s
def secret : St1 → Bool | mk _ _ _ b _ _ _ => b
def args : St1 → List Ex | mk _ _ _ _ a _ _ => a
def thn : St1 → List St1 | mk _ _ _ _ _ t _ => t
def els : St1 → List St1 | mk _ _ _ _ _ _ e => e
def none : St1 := mk 0 0 [] false [] [] []
end St1
structure Par where
  name : List UInt8
  secret : Bool
  size : Int
structure Fn1 where
  params : List Par
  arrays : List Par
  body : List St1
/-- the reader -/
structure PS where
  s : List UInt8
  err : Int
def blank (c : UInt8) : Bool := c == 32 || c == 10
def sepc (c : UInt8) : Bool := c == 32 || c == 10 || c == 40 || c == 41
def skipB : List UInt8 → List UInt8
  | [] => []
  | c :: s => if blank c = true then skipB s else c :: s
def runLen : List UInt8 → Nat
  | [] => 0
  | c :: s => if sepc c = true then 0 else runLen s + 1
def wordLen (s : List UInt8) : Nat := if runLen s = 0 ∧ s ≠ [] then 1 else runLen s
def peekW (s : List UInt8) : List UInt8 := (skipB s).take (wordLen (skipB s))
def PS.bad (p : PS) (e : Int) : PS := if p.err = 0 then ⟨p.s, e⟩ else p
def PS.skip (p : PS) : PS := ⟨skipB p.s, p.err⟩
def takeW (p : PS) : List UInt8 × PS := (peekW p.s, ⟨(skipB p.s).drop (peekW p.s).length, if peekW p.s = [] then (p.bad 8).err else p.err⟩)
def isW (w : List UInt8) (p : PS) : PS := if (takeW p).1 ≠ w then (takeW p).2.bad 2 else (takeW p).2
/-- the words of the language: fn pub sec let set put if for ret sel at -/
def langWords : List (List UInt8) := [[102, 110], [112, 117, 98], [115, 101, 99], [108, 101, 116], [115, 101, 116], [112, 117, 116], [105, 102], [102, 111, 114], [114, 101, 116], [115, 101, 108], [97, 116]]
def nameOk (w : List UInt8) : Bool := !langWords.contains w && w.all (fun c => decide (97 ≤ c.toNat ∧ c.toNat ≤ 122)) && decide (0 < w.length) && decide (w.length < 7)
def numOk (w : List UInt8) : Bool := atoiY w && decide (0 ≤ atoiN w) && decide (atoiN w < 4294967296) && (Lib.itoa (atoiN w) == w)
def nameW (p : PS) : List UInt8 × PS := ((takeW p).1, if nameOk (takeW p).1 = true then (takeW p).2 else (takeW p).2.bad 7)
def numW (low high : Int) (p : PS) : Int × PS :=
  (atoiN (takeW p).1, if numOk (takeW p).1 = false then (takeW p).2.bad 2 else if atoiN (takeW p).1 < low ∨ high < atoiN (takeW p).1 then (takeW p).2.bad 3 else (takeW p).2)
def labW (p : PS) : Bool × PS := if (takeW p).1 = [115, 101, 99] then (true, (takeW p).2) else (false, if (takeW p).1 = [112, 117, 98] then (takeW p).2 else (takeW p).2.bad 2)
def allW {α : Type} (f : PS → α × PS) : Nat → PS → List α × PS
  | 0, p => ([], isW [41] p)
  | k + 1, p => if p.err = 0 ∧ peekW p.s ≠ [41] then ((f p.skip).1 :: (allW f k (f p.skip).2).1, (allW f k (f p.skip).2).2) else ([], isW [41] p)
def timesW {α : Type} (f : PS → α × PS) : Nat → PS → List α × PS
  | 0, p => ([], p)
  | k + 1, p => ((f p).1 :: (timesW f k (f p).2).1, (timesW f k (f p).2).2)
/-- signs of ops: + - & | ^ << >> * / % < = -/
def opSigns : List (List UInt8) := [[43], [45], [38], [124], [94], [60, 60], [62, 62], [42], [47], [37], [60], [61]]
def signTo (w : List UInt8) : Nat → Nat
  | 0 => 0
  | k + 1 => if opSigns.getD k [] = w then k + 1 else signTo w k
def signOf (w : List UInt8) : Nat := signTo w 12
def exprW : Nat → PS → Ex × PS
  | 0, p => (Ex.none, p.bad 9)
  | d + 1, p =>
    let w := (takeW p).1
    let p1 := (takeW p).2
    if w ≠ [40] then
      if numOk w = true then (.mk 1 (atoiN w) [] [], p1) else (.mk 2 0 w [], if nameOk w = true then p1 else p1.bad 7)
    else
      let v := (takeW p1).1
      let p2 := (takeW p1).2
      if v = [115, 101, 108] then
        let r := timesW (exprW d) 3 p2
        (.mk 4 0 [] r.1, isW [41] r.2)
      else if v = [97, 116] then
        let r := timesW (exprW d) 1 (nameW p2).2
        (.mk 5 0 (nameW p2).1 r.1, isW [41] r.2)
      else
        let r := timesW (exprW d) 2 (if signOf v = 0 then p2.bad 1 else p2)
        (.mk 3 (signOf v) [] r.1, isW [41] r.2)
/-- kinds of statements: let set put if for ret -/
def stKind (w : List UInt8) : Int := if w = [108, 101, 116] then 1 else if w = [115, 101, 116] then 2 else if w = [112, 117, 116] then 3 else if w = [105, 102] then 4 else if w = [102, 111, 114] then 5 else if w = [114, 101, 116] then 6 else 0
def stArgs (k : Int) : Nat := if k = 3 then 2 else if k = 1 ∨ k = 2 ∨ k = 4 ∨ k = 6 then 1 else 0
/-- a statement's head: its kind, is it secret, its name -/
def kindW (p : PS) : Int × PS := (stKind (takeW (isW [40] p)).1, if stKind (takeW (isW [40] p)).1 = 0 then (takeW (isW [40] p)).2.bad 1 else (takeW (isW [40] p)).2)
def secW (k : Int) (p : PS) : Bool × PS := if k = 1 then labW p else (false, p)
def nmW (k : Int) (p : PS) : List UInt8 × PS := if k = 1 ∨ k = 2 ∨ k = 3 ∨ k = 5 then nameW p else ([], p)
/-- statements up to a bracket -/
def blockW (f : PS → St1 × PS) (p : PS) : List St1 × PS := allW f (p.s.length + 1) p
/-- a loop's end, a choice's end, another one's end -/
def forW (f : PS → St1 × PS) (b : Bool) (n : List UInt8) (p : PS) : St1 × PS :=
  (.mk 5 (numW 0 8 p).1 n b [] (blockW f (numW 0 8 p).2).1 [], (blockW f (numW 0 8 p).2).2)
def ifW (f : PS → St1 × PS) (b : Bool) (n : List UInt8) (a : List Ex × PS) : St1 × PS :=
  (.mk 4 0 n b a.1 (blockW f (isW [40] a.2)).1 (blockW f (isW [40] (blockW f (isW [40] a.2)).2)).1, isW [41] (blockW f (isW [40] (blockW f (isW [40] a.2)).2)).2)
def stmtW : Nat → PS → St1 × PS
  | 0, p => (St1.none, p.bad 9)
  | d + 1, p =>
    let q1 := kindW p
    let q2 := secW q1.1 q1.2
    let q3 := nmW q1.1 q2.2
    if q1.1 = 5 then forW (stmtW d) q2.1 q3.1 q3.2
    else if q1.1 = 4 then ifW (stmtW d) q2.1 q3.1 (timesW (exprW d) 1 q3.2)
    else (.mk q1.1 0 q3.1 q2.1 (timesW (exprW d) (stArgs q1.1) q3.2).1 [] [], isW [41] (timesW (exprW d) (stArgs q1.1) q3.2).2)
def parW (p : PS) : Par × PS :=
  let q1 := labW (isW [40] p)
  let q2 := nameW q1.2
  (⟨q2.1, q1.1, 0⟩, isW [41] q2.2)
def arrW (p : PS) : Par × PS :=
  let q1 := labW (isW [40] p)
  let q2 := nameW q1.2
  let q3 := numW 1 8 q2.2
  (⟨q2.1, q1.1, q3.1⟩, isW [41] q3.2)
def noFn : Fn1 := ⟨[], [], []⟩
def parseW (s : List UInt8) : Fn1 × Int :=
  if 1200 < s.length then (noFn, 4)
  else
    let p0 := isW [40] (isW [102, 110] (isW [40] ⟨s, 0⟩))
    let ps := allW parW (p0.s.length + 1) p0
    let p1 := isW [40] ps.2
    let ay := allW arrW (p1.s.length + 1) p1
    let b := blockW (stmtW 9) ay.2
    let p2 := if b.2.err = 0 ∧ peekW b.2.s ≠ [] then b.2.bad 2 else b.2
    if p2.err ≠ 0 then (noFn, p2.err) else (⟨ps.1, ay.1, b.1⟩, 0)
end Ev
