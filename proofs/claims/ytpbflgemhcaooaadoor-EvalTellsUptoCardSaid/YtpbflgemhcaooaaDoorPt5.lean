import Derived.Test.YtpbflgemhcaooaaDoorPt4
/- Chapter 4, plainly: what is wrong with a program. -/
namespace Ev
set_option linter.unusedVariables false
/-- a name's place, the last one first; below 0: there is none -/
def nameTo (l : List Par) (n : List UInt8) : Nat → Int
  | 0 => -1
  | k + 1 => if (l[k]?).map Par.name = some n then (k : Int) else nameTo l n k
def nameI (l : List Par) (n : List UInt8) : Int := nameTo l n l.length
def findP (l : List Par) (n : List UInt8) : Option Par := if nameI l n < 0 then none else l[(nameI l n).toNat]?
/-- what is at a place of an array: is it secret, and what is wrong -/
def plC (A : List Par) (nm : List UInt8) (a : Ex) (secret dark : Bool) : Bool × Int :=
  match findP A nm with
  | none => (false, 6)
  | some v => if secret = true then (false, 10) else if dark = true ∧ (a.kind ≠ 1 ∨ v.size ≤ a.n) then (false, 10) else (v.secret, 0)
mutual
def exC (A l : List Par) (dark : Bool) : Ex → Bool × Int
  | .mk k n nm as =>
    if (exsC A l dark as false).2 ≠ 0 then (false, (exsC A l dark as false).2)
    else if k = 2 then (match findP l nm with | none => (false, 6) | some p => (p.secret, 0))
    else if k = 5 then plC A nm (as.headD Ex.none) (exsC A l dark as false).1 dark
    else ((exsC A l dark as false).1, 0)
def exsC (A l : List Par) (dark : Bool) : List Ex → Bool → Bool × Int
  | [], b => (b, 0)
  | e :: es, b => if (exC A l dark e).2 ≠ 0 then (false, (exC A l dark e).2) else exsC A l dark es (b || (exC A l dark e).1)
end
/-- of each argument: is it secret -/
def argsC (A l : List Par) (dark : Bool) : List Ex → List Bool × Int
  | [] => ([], 0)
  | e :: es => if (exC A l dark e).2 ≠ 0 then ([], (exC A l dark e).2) else ((exC A l dark e).1 :: (argsC A l dark es).1, (argsC A l dark es).2)
/-- how many statements were looked at; how many names were laid -/
structure LK where
  work : Int
  lets : Int
def timesC (f : LK → Int × LK) : Nat → LK → Int × LK
  | 0, k => (0, k)
  | n + 1, k => if (f k).1 ≠ 0 then f k else timesC f n (f k).2
/-- a statement that leads nowhere else: what is wrong with it; the names that are there then -/
def oneC (A l : List Par) (dark : Bool) (k : LK) (kind : Int) (nm : List UInt8) (sec : Bool) (a : Ex) (s0 s1 : Bool) : (List Par × Int) × LK :=
  if kind = 1 then
    if 0 ≤ nameI l nm ∨ 0 ≤ nameI A nm then (([], 7), k)
    else if sec = false ∧ (s0 = true ∨ dark = true) then (([], 10), k)
    else if 24 < k.lets + 1 then (([], 4), ⟨k.work, k.lets + 1⟩)
    else ((l ++ [⟨nm, sec, 0⟩], 0), ⟨k.work, k.lets + 1⟩)
  else if kind = 2 then
    match findP l nm with
    | none => (([], 6), k)
    | some v => if v.size < 0 then (([], 6), k) else if v.secret = false ∧ (s0 = true ∨ dark = true) then (([], 10), k) else ((l, 0), k)
  else if kind = 3 then
    if (plC A nm a s0 dark).2 ≠ 0 then (([], (plC A nm a s0 dark).2), k)
    else if (plC A nm a s0 dark).1 = false ∧ (s1 = true ∨ dark = true) then (([], 10), k)
    else ((l, 0), k)
  else if dark = true then (([], 10), k) else ((l, 0), k)
mutual
def stC (A l : List Par) (dark : Bool) (k : LK) : St1 → (List Par × Int) × LK
  | .mk kind n nm sec args thn els =>
    if 300 < k.work + 1 then (([], 4), ⟨k.work + 1, k.lets⟩)
    else if (argsC A l dark args).2 ≠ 0 then (([], (argsC A l dark args).2), ⟨k.work + 1, k.lets⟩)
    else if kind = 4 then
      if (blC A l (dark || (argsC A l dark args).1.headD false) ⟨k.work + 1, k.lets⟩ thn).1 ≠ 0 then (([], (blC A l (dark || (argsC A l dark args).1.headD false) ⟨k.work + 1, k.lets⟩ thn).1), (blC A l (dark || (argsC A l dark args).1.headD false) ⟨k.work + 1, k.lets⟩ thn).2)
      else if (blC A l (dark || (argsC A l dark args).1.headD false) (blC A l (dark || (argsC A l dark args).1.headD false) ⟨k.work + 1, k.lets⟩ thn).2 els).1 ≠ 0 then (([], (blC A l (dark || (argsC A l dark args).1.headD false) (blC A l (dark || (argsC A l dark args).1.headD false) ⟨k.work + 1, k.lets⟩ thn).2 els).1), (blC A l (dark || (argsC A l dark args).1.headD false) (blC A l (dark || (argsC A l dark args).1.headD false) ⟨k.work + 1, k.lets⟩ thn).2 els).2)
      else ((l, 0), (blC A l (dark || (argsC A l dark args).1.headD false) (blC A l (dark || (argsC A l dark args).1.headD false) ⟨k.work + 1, k.lets⟩ thn).2 els).2)
    else if kind = 5 then
      if 0 ≤ nameI l nm ∨ 0 ≤ nameI A nm then (([], 7), ⟨k.work + 1, k.lets⟩)
      else if (timesC (fun k => blC A (l ++ [⟨nm, false, -1⟩]) dark k thn) n.toNat ⟨k.work + 1, k.lets⟩).1 ≠ 0 then (([], (timesC (fun k => blC A (l ++ [⟨nm, false, -1⟩]) dark k thn) n.toNat ⟨k.work + 1, k.lets⟩).1), (timesC (fun k => blC A (l ++ [⟨nm, false, -1⟩]) dark k thn) n.toNat ⟨k.work + 1, k.lets⟩).2)
      else ((l, 0), (timesC (fun k => blC A (l ++ [⟨nm, false, -1⟩]) dark k thn) n.toNat ⟨k.work + 1, k.lets⟩).2)
    else oneC A l dark ⟨k.work + 1, k.lets⟩ kind nm sec (args.headD Ex.none) ((argsC A l dark args).1.getD 0 false) ((argsC A l dark args).1.getD 1 false)
def blC (A l : List Par) (dark : Bool) (k : LK) : List St1 → Int × LK
  | [] => (0, k)
  | s :: ss => if (stC A l dark k s).1.2 ≠ 0 then ((stC A l dark k s).1.2, (stC A l dark k s).2) else blC A (stC A l dark k s).1.1 dark (stC A l dark k s).2 ss
end
/-- is a name there ahead of it -/
def twiceTo (l : List Par) : Nat → Bool
  | 0 => false
  | k + 1 => twiceTo l k || (match l[k]? with | none => false | some v => decide (0 ≤ nameTo l v.name k))
/-- what is wrong with a program -/
def checkC (f : Fn1) : Int :=
  if 4 < f.params.length ∨ 3 < f.arrays.length then 5
  else if twiceTo (f.params ++ f.arrays) (f.params ++ f.arrays).length = true then 7
  else (blC f.arrays f.params false ⟨0, 0⟩ f.body).1
theorem exC_eq (A l : List Par) (dark : Bool) (e : Ex) : exC A l dark e = if (exsC A l dark e.args false).2 ≠ 0 then (false, (exsC A l dark e.args false).2)
    else if e.kind = 2 then (match findP l e.name with | none => (false, 6) | some p => (p.secret, 0))
    else if e.kind = 5 then plC A e.name (e.args.headD Ex.none) (exsC A l dark e.args false).1 dark
    else ((exsC A l dark e.args false).1, 0) := by
  cases e
  rw [exC]
  rfl
theorem exsC_nil (A l : List Par) (dark b : Bool) : exsC A l dark [] b = (b, 0) := by rw [exsC]
theorem exsC_cons (A l : List Par) (dark b : Bool) (e : Ex) (es : List Ex) : exsC A l dark (e :: es) b = if (exC A l dark e).2 ≠ 0 then (false, (exC A l dark e).2) else exsC A l dark es (b || (exC A l dark e).1) := by rw [exsC]
theorem blC_nil (A l : List Par) (dark : Bool) (k : LK) : blC A l dark k [] = (0, k) := by rw [blC]
theorem blC_cons (A l : List Par) (dark : Bool) (k : LK) (s : St1) (ss : List St1) : blC A l dark k (s :: ss) = if (stC A l dark k s).1.2 ≠ 0 then ((stC A l dark k s).1.2, (stC A l dark k s).2) else blC A (stC A l dark k s).1.1 dark (stC A l dark k s).2 ss := by rw [blC]
theorem nameTo_lt (l : List Par) (n : List UInt8) : ∀ k, nameTo l n k < (k : Int) ∧ -1 ≤ nameTo l n k
  | 0 => ⟨by show (-1 : Int) < _; omega, by show (-1 : Int) ≤ -1; omega⟩
  | k + 1 => by
    have := nameTo_lt l n k
    unfold nameTo
    split <;> omega
theorem findP_none {l : List Par} {n : List UInt8} (h : nameI l n < 0) : findP l n = none := if_pos h
theorem findP_some {l : List Par} {n : List UInt8} (h : 0 ≤ nameI l n) : ∃ p, findP l n = some p ∧ l[(nameI l n).toNat]? = some p := by
  have h1 := nameTo_lt l n l.length
  have h2 : (nameI l n).toNat < l.length := by unfold nameI at h ⊢; omega
  refine ⟨l[(nameI l n).toNat], ?_, List.getElem?_eq_getElem h2⟩
  unfold findP
  rw [if_neg (by omega)]
  exact List.getElem?_eq_getElem h2
theorem nameTo_snoc (l : List Par) (x : Par) (n : List UInt8) : ∀ k, k ≤ l.length → nameTo (l ++ [x]) n k = nameTo l n k
  | 0, _ => rfl
  | k + 1, h => by
    unfold nameTo
    rw [List.getElem?_append_left (by omega), nameTo_snoc l x n k (by omega)]
theorem nameI_snoc (l : List Par) (x : Par) (n : List UInt8) : nameI (l ++ [x]) n = if x.name = n then (l.length : Int) else nameI l n := by
  have h1 : (l ++ [x]).length = l.length + 1 := by simp
  unfold nameI
  rw [h1]
  conv => lhs; unfold nameTo
  rw [nameTo_snoc l x n _ (Nat.le_refl _)]
  rw [List.getElem?_append_right (Nat.le_refl _), Nat.sub_self]
  show (if some x.name = some n then _ else _) = _
  by_cases h : x.name = n
  · rw [if_pos (by rw [h]), if_pos h]
  · rw [if_neg (fun e => h (by injection e)), if_neg h]
theorem findP_snoc (l : List Par) (x : Par) (n : List UInt8) : findP (l ++ [x]) n = if x.name = n then some x else findP l n := by
  have h1 := nameTo_lt l n l.length
  unfold findP
  rw [nameI_snoc]
  by_cases h : x.name = n
  · rw [if_pos h, if_pos h, if_neg (by omega)]
    show (l ++ [x])[((l.length : Nat) : Int).toNat]? = _
    rw [Int.toNat_natCast]
    simp
  · rw [if_neg h, if_neg h]
    by_cases h2 : nameI l n < 0
    · rw [if_pos h2, if_pos h2]
    · rw [if_neg h2, if_neg h2]
      unfold nameI at h2 ⊢
      rw [List.getElem?_append_left (by omega)]
theorem findP_nil (n : List UInt8) : findP [] n = none := rfl
end Ev
