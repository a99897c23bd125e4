import Derived.Test.YtpbflgemhcaooaaDoorPt6
import Derived.Test.YtpbflgemhcaooaaDoorPt1
/- Chapter 5, plainly: what comes of a program. -/
namespace Ev
set_option linter.unusedVariables false
/-- names and their words, the newest one first -/
abbrev Nms := List (List UInt8 × Int)
abbrev Ars := List (List Int)
def getN : Nms → List UInt8 → Int
  | [], _ => 0
  | (m, v) :: r, n => if m = n then v else getN r n
def setN : Nms → List UInt8 → Int → Nms
  | [], _, _ => []
  | (m, v) :: r, n, x => if m = n then (m, x) :: r else (m, v) :: setN r n x
/-- an array's place, the first one -/
def arrI (A : List Par) (n : List UInt8) : Nat := A.findIdx fun p => p.name == n
mutual
/-- an expression's word; none: it traps -/
def exE (A : List Par) (a : Ars) (l : Nms) : Ex → Option Int
  | .mk k n nm as =>
    match exsE A a l as with
    | none => none
    | some v =>
      if k = 2 then some (getN l nm)
      else if k = 3 then some (two n (v.getD 0 0) (v.getD 1 0))
      else if k = 4 then some (sel (v.getD 0 0) (v.getD 1 0) (v.getD 2 0))
      else if k = 5 then (if v.getD 0 0 < ((a.getD (arrI A nm) []).length : Int) then some ((a.getD (arrI A nm) []).getD (v.getD 0 0).toNat 0) else none)
      else some n
def exsE (A : List Par) (a : Ars) (l : Nms) : List Ex → Option (List Int)
  | [] => some []
  | e :: es =>
    match exE A a l e with
    | none => none
    | some x => (exsE A a l es).map (x :: ·)
end
/-- names, arrays, and how it ended: none: it goes on; some none: it trapped -/
structure EO where
  l : Nms
  a : Ars
  e : Option (Option Int)
/-- the names that were there ahead of it -/
def EO.back (o : EO) (l : Nms) : EO := ⟨o.l.drop (o.l.length - l.length), o.a, o.e⟩
def timesE (f : Int → Nms → Ars → EO) : Nat → Int → Nms → Ars → EO
  | 0, j, l, a => ⟨l, a, none⟩
  | n + 1, j, l, a => if (f j l a).e.isSome = true then f j l a else timesE f n (j + 1) (f j l a).l (f j l a).a
mutual
def stE (A : List Par) (l : Nms) (a : Ars) : St1 → EO
  | .mk kind n nm sec args thn els =>
    match exsE A a l args with
    | none => ⟨l, a, some none⟩
    | some v =>
      if kind = 1 then ⟨(nm, v.getD 0 0) :: l, a, none⟩
      else if kind = 2 then ⟨setN l nm (v.getD 0 0), a, none⟩
      else if kind = 3 then
        (if v.getD 0 0 < ((a.getD (arrI A nm) []).length : Int) then ⟨l, a.set (arrI A nm) ((a.getD (arrI A nm) []).set (v.getD 0 0).toNat (v.getD 1 0)), none⟩ else ⟨l, a, some none⟩)
      else if kind = 4 then (if v.getD 0 0 ≠ 0 then (blE A l a thn).back l else (blE A l a els).back l)
      else if kind = 5 then timesE (fun j l a => (blE A ((nm, j) :: l) a thn).back l) n.toNat 0 l a
      else ⟨l, a, some (some (v.getD 0 0))⟩
def blE (A : List Par) (l : Nms) (a : Ars) : List St1 → EO
  | [] => ⟨l, a, none⟩
  | t :: ts => if (stE A l a t).e.isSome = true then stE A l a t else blE A (stE A l a t).l (stE A l a t).a ts
end
theorem exE_eq (A : List Par) (a : Ars) (l : Nms) (e : Ex) : exE A a l e =
    match exsE A a l e.args with
    | none => none
    | some v =>
      if e.kind = 2 then some (getN l e.name)
      else if e.kind = 3 then some (two e.n (v.getD 0 0) (v.getD 1 0))
      else if e.kind = 4 then some (sel (v.getD 0 0) (v.getD 1 0) (v.getD 2 0))
      else if e.kind = 5 then (if v.getD 0 0 < ((a.getD (arrI A e.name) []).length : Int) then some ((a.getD (arrI A e.name) []).getD (v.getD 0 0).toNat 0) else none)
      else some e.n := by
  cases e
  rw [exE]
  rfl
theorem exsE_nil (A : List Par) (a : Ars) (l : Nms) : exsE A a l [] = some [] := by rw [exsE]
theorem exsE_cons (A : List Par) (a : Ars) (l : Nms) (e : Ex) (es : List Ex) : exsE A a l (e :: es) = match exE A a l e with | none => none | some x => (exsE A a l es).map (x :: ·) := by rw [exsE]
theorem stE_eq (A : List Par) (l : Nms) (a : Ars) (t : St1) : stE A l a t =
    match exsE A a l t.args with
    | none => ⟨l, a, some none⟩
    | some v =>
      if t.kind = 1 then ⟨(t.name, v.getD 0 0) :: l, a, none⟩
      else if t.kind = 2 then ⟨setN l t.name (v.getD 0 0), a, none⟩
      else if t.kind = 3 then
        (if v.getD 0 0 < ((a.getD (arrI A t.name) []).length : Int) then ⟨l, a.set (arrI A t.name) ((a.getD (arrI A t.name) []).set (v.getD 0 0).toNat (v.getD 1 0)), none⟩ else ⟨l, a, some none⟩)
      else if t.kind = 4 then (if v.getD 0 0 ≠ 0 then (blE A l a t.thn).back l else (blE A l a t.els).back l)
      else if t.kind = 5 then timesE (fun j l a => (blE A ((t.name, j) :: l) a t.thn).back l) t.n.toNat 0 l a
      else ⟨l, a, some (some (v.getD 0 0))⟩ := by
  cases t
  rw [stE]
  rfl
theorem blE_nil (A : List Par) (l : Nms) (a : Ars) : blE A l a [] = ⟨l, a, none⟩ := by rw [blE]
theorem blE_cons (A : List Par) (l : Nms) (a : Ars) (t : St1) (ts : List St1) : blE A l a (t :: ts) = if (stE A l a t).e.isSome = true then stE A l a t else blE A (stE A l a t).l (stE A l a t).a ts := by rw [blE]
/-- of what is left of the arguments -/
structure ArgsE (A : List Par) (a : Ars) (l : Nms) (xs rest : List Ex) (S : List Int) : Prop where
  eq : exsE A a l xs = (exsE A a l rest).map (S ++ ·)
theorem ArgsE.start (A : List Par) (a : Ars) (l : Nms) (xs : List Ex) : ArgsE A a l xs xs [] := ⟨by simp⟩
theorem ArgsE.bad {A : List Par} {a : Ars} {l : Nms} {xs rest : List Ex} {S : List Int} {e : Ex} (h : ArgsE A a l xs (e :: rest) S) (h0 : exE A a l e = none) : exsE A a l xs = none := by
  rw [h.eq, exsE_cons, h0]; rfl
theorem ArgsE.good {A : List Par} {a : Ars} {l : Nms} {xs rest : List Ex} {S : List Int} {e : Ex} {x : Int} (h : ArgsE A a l xs (e :: rest) S) (h0 : exE A a l e = some x) : ArgsE A a l xs rest (S ++ [x]) := by
  refine ⟨?_⟩
  rw [h.eq, exsE_cons, h0]
  simp [Option.map_map, Function.comp_def]
theorem ArgsE.done {A : List Par} {a : Ars} {l : Nms} {xs : List Ex} {S : List Int} (h : ArgsE A a l xs [] S) : exsE A a l xs = some S := by
  rw [h.eq, exsE_nil]; simp
/-! ### what a check tells -/
/-- right statements, where names are there, in secret or not -/
def TyS (A L : List Par) (dark : Bool) (t : St1) : Prop := ∃ k, (stC A L dark k t).1.2 = 0
def TyB (A L : List Par) (dark : Bool) (ts : List St1) : Prop := ∃ k, (blC A L dark k ts).1 = 0
/-- the names that are there behind a statement -/
def nextL (L : List Par) (t : St1) : List Par := if t.kind = 1 then L ++ [⟨t.name, t.secret, 0⟩] else L
theorem stC_next {A L : List Par} {dark : Bool} {k : LK} {t : St1} (h : (stC A L dark k t).1.2 = 0) : (stC A L dark k t).1.1 = nextL L t := by
  rw [stC_eq] at h ⊢
  unfold nextL
  by_cases e1 : 300 < k.work + 1
  · rw [if_pos e1] at h; cases h
  rw [if_neg e1] at h ⊢
  by_cases e2 : (argsC A L dark t.args).2 = 0
  case neg => rw [if_pos e2] at h; exact absurd h e2
  rw [if_neg (not_not_intro e2)] at h ⊢
  by_cases k4 : t.kind = 4
  · rw [if_pos k4] at h ⊢
    rw [if_neg (c := t.kind = 1) (by rw [k4]; decide)]
    split at h
    · rename_i hx; exact absurd h hx
    · rename_i hx
      rw [if_neg hx]
      split at h
      · rename_i hy; exact absurd h hy
      · rename_i hy; rw [if_neg hy]
  rw [if_neg k4] at h ⊢
  by_cases k5 : t.kind = 5
  · rw [if_pos k5] at h ⊢
    rw [if_neg (c := t.kind = 1) (by rw [k5]; decide)]
    split at h
    · cases h
    · rename_i hx
      rw [if_neg hx]
      split at h
      · rename_i hy; exact absurd h hy
      · rename_i hy; rw [if_neg hy]
  rw [if_neg k5] at h ⊢
  unfold oneC at h ⊢
  by_cases k1 : t.kind = 1
  · rw [if_pos k1] at h ⊢
    rw [if_pos k1]
    split at h
    · cases h
    · rename_i hx
      rw [if_neg hx]
      split at h
      · cases h
      · rename_i hy
        rw [if_neg hy]
        split at h
        · cases h
        · rename_i hz; rw [if_neg hz]
  rw [if_neg k1] at h ⊢
  rw [if_neg k1]
  by_cases k2 : t.kind = 2
  · rw [if_pos k2] at h ⊢
    cases e : findP L t.name with
    | none => rw [e] at h; cases h
    | some v =>
      rw [e] at h
      dsimp only at h ⊢
      split at h
      · cases h
      · rename_i hy
        rw [if_neg hy]
        split at h
        · cases h
        · rename_i hz; rw [if_neg hz]
  rw [if_neg k2] at h ⊢
  by_cases k3 : t.kind = 3
  · rw [if_pos k3] at h ⊢
    split at h
    · rename_i hy; exact absurd h hy
    · rename_i hy
      rw [if_neg hy]
      split at h
      · cases h
      · rename_i hz; rw [if_neg hz]
  rw [if_neg k3] at h ⊢
  split at h
  · cases h
  · rename_i hy; rw [if_neg hy]
theorem TyB.cons {A L : List Par} {dark : Bool} {t : St1} {ts : List St1} (h : TyB A L dark (t :: ts)) : TyS A L dark t ∧ TyB A (nextL L t) dark ts := by
  obtain ⟨k, h⟩ := h
  rw [blC_cons] at h
  by_cases e : (stC A L dark k t).1.2 = 0
  · rw [if_neg (not_not_intro e)] at h
    rw [stC_next e] at h
    exact ⟨⟨k, e⟩, ⟨_, h⟩⟩
  · rw [if_pos e] at h; exact absurd h e
theorem timesC_one {f : LK → Int × LK} {n : Nat} {k : LK} (hn : 0 < n) (h : (timesC f n k).1 = 0) : ∃ k', (f k').1 = 0 := by
  cases n with
  | zero => omega
  | succ n =>
    unfold timesC at h
    by_cases e : (f k).1 = 0
    · exact ⟨k, e⟩
    · rw [if_pos e] at h; exact absurd h e
/-- what is right with a statement, by its kinds -/
structure TyParts (A L : List Par) (dark : Bool) (t : St1) : Prop where
  args : (argsC A L dark t.args).2 = 0
  let_ : t.kind = 1 → nameI L t.name < 0 ∧ nameI A t.name < 0 ∧ (t.secret = false → (argsC A L dark t.args).1.getD 0 false = false ∧ dark = false)
  set_ : t.kind = 2 → ∃ v, findP L t.name = some v ∧ 0 ≤ v.size ∧ (v.secret = false → (argsC A L dark t.args).1.getD 0 false = false ∧ dark = false)
  put : t.kind = 3 → (plC A t.name (t.args.headD Ex.none) ((argsC A L dark t.args).1.getD 0 false) dark).2 = 0 ∧ ((plC A t.name (t.args.headD Ex.none) ((argsC A L dark t.args).1.getD 0 false) dark).1 = false → (argsC A L dark t.args).1.getD 1 false = false ∧ dark = false)
  thn : t.kind = 4 → TyB A L (dark || (argsC A L dark t.args).1.headD false) t.thn
  els : t.kind = 4 → TyB A L (dark || (argsC A L dark t.args).1.headD false) t.els
  loop : t.kind = 5 → nameI L t.name < 0 ∧ nameI A t.name < 0 ∧ (0 < t.n.toNat → TyB A (L ++ [⟨t.name, false, -1⟩]) dark t.thn)
  ret : ¬ t.kind = 1 → ¬ t.kind = 2 → ¬ t.kind = 3 → ¬ t.kind = 4 → ¬ t.kind = 5 → dark = false
theorem two_bits {a b c : Bool} (h : ¬ (a = false ∧ (b = true ∨ c = true))) : a = false → b = false ∧ c = false := by
  cases a <;> cases b <;> cases c <;> simp at h ⊢
theorem TyS.parts {A L : List Par} {dark : Bool} {t : St1} (h : TyS A L dark t) : TyParts A L dark t := by
  obtain ⟨k, h⟩ := h
  rw [stC_eq] at h
  by_cases e1 : 300 < k.work + 1
  · rw [if_pos e1] at h; cases h
  rw [if_neg e1] at h
  by_cases e2 : (argsC A L dark t.args).2 = 0
  case neg => rw [if_pos e2] at h; exact absurd h e2
  rw [if_neg (not_not_intro e2)] at h
  by_cases k4 : t.kind = 4
  · rw [if_pos k4] at h
    split at h
    · rename_i hx; exact absurd h hx
    · rename_i hx
      split at h
      · rename_i hy; exact absurd h hy
      · rename_i hy
        exact ⟨e2, fun e => absurd e (by rw [k4]; decide), fun e => absurd e (by rw [k4]; decide), fun e => absurd e (by rw [k4]; decide), fun _ => ⟨_, Decidable.not_not.1 hx⟩, fun _ => ⟨_, Decidable.not_not.1 hy⟩, fun e => absurd e (by rw [k4]; decide), fun _ _ _ n _ => absurd k4 n⟩
  rw [if_neg k4] at h
  by_cases k5 : t.kind = 5
  · rw [if_pos k5] at h
    split at h
    · cases h
    · rename_i hx
      split at h
      · rename_i hy; exact absurd h hy
      · rename_i hy
        refine ⟨e2, fun e => absurd e (by rw [k5]; decide), fun e => absurd e (by rw [k5]; decide), fun e => absurd e (by rw [k5]; decide), fun e => absurd e k4, fun e => absurd e k4, fun _ => ⟨by omega, by omega, fun hn => ?_⟩, fun _ _ _ _ n => absurd k5 n⟩
        exact timesC_one hn (Decidable.not_not.1 hy)
  rw [if_neg k5] at h
  unfold oneC at h
  by_cases k1 : t.kind = 1
  · rw [if_pos k1] at h
    split at h
    · cases h
    · rename_i hx
      split at h
      · cases h
      · rename_i hy
        exact ⟨e2, fun _ => ⟨by omega, by omega, two_bits hy⟩, fun e => absurd e (by rw [k1]; decide), fun e => absurd e (by rw [k1]; decide), fun e => absurd e k4, fun e => absurd e k4, fun e => absurd e k5, fun n => absurd k1 n⟩
  rw [if_neg k1] at h
  by_cases k2 : t.kind = 2
  · rw [if_pos k2] at h
    cases e : findP L t.name with
    | none => rw [e] at h; cases h
    | some v =>
      rw [e] at h
      dsimp only at h
      split at h
      · cases h
      · rename_i hy
        split at h
        · cases h
        · rename_i hz
          exact ⟨e2, fun e => absurd e k1, fun _ => ⟨v, e, by omega, two_bits hz⟩, fun e => absurd e (by rw [k2]; decide), fun e => absurd e k4, fun e => absurd e k4, fun e => absurd e k5, fun _ n => absurd k2 n⟩
  rw [if_neg k2] at h
  by_cases k3 : t.kind = 3
  · rw [if_pos k3] at h
    split at h
    · rename_i hy; exact absurd h hy
    · rename_i hy
      split at h
      · cases h
      · rename_i hz
        exact ⟨e2, fun e => absurd e k1, fun e => absurd e k2, fun _ => ⟨Decidable.not_not.1 hy, two_bits hz⟩, fun e => absurd e k4, fun e => absurd e k4, fun e => absurd e k5, fun _ _ n => absurd k3 n⟩
  rw [if_neg k3] at h
  split at h
  · cases h
  · rename_i hd
    exact ⟨e2, fun e => absurd e k1, fun e => absurd e k2, fun e => absurd e k3, fun e => absurd e k4, fun e => absurd e k4, fun e => absurd e k5, fun _ _ _ _ _ => by cases dark; rfl; exact absurd rfl hd⟩
/-! ### what a checked expression has -/
theorem args_ok {A L : List Par} {dark : Bool} : ∀ {es : List Ex}, (argsC A L dark es).2 = 0 → ∀ e ∈ es, (exC A L dark e).2 = 0
  | [], _, e, h => by cases h
  | x :: es, h, e, he => by
    unfold argsC at h
    by_cases h0 : (exC A L dark x).2 = 0
    · rw [if_neg (not_not_intro h0)] at h
      rcases List.mem_cons.1 he with rfl | he
      · exact h0
      · exact args_ok h e he
    · rw [if_pos h0] at h; exact absurd h h0
theorem exs_ok {A L : List Par} {dark : Bool} : ∀ {es : List Ex} {b : Bool}, (exsC A L dark es b).2 = 0 → ∀ e ∈ es, (exC A L dark e).2 = 0
  | [], _, _, e, h => by cases h
  | x :: es, b, h, e, he => by
    rw [exsC_cons] at h
    by_cases h0 : (exC A L dark x).2 = 0
    · rw [if_neg (not_not_intro h0)] at h
      rcases List.mem_cons.1 he with rfl | he
      · exact h0
      · exact exs_ok h e he
    · rw [if_pos h0] at h; exact absurd h h0
structure TyEx (A L : List Par) (dark : Bool) (e : Ex) : Prop where
  args : ∀ x ∈ e.args, (exC A L dark x).2 = 0
  name : e.kind = 2 → ∃ v, findP L e.name = some v
  at_ : e.kind = 5 → ∃ v, findP A e.name = some v
theorem plC_some {A : List Par} {n : List UInt8} {x : Ex} {s d : Bool} (h : (plC A n x s d).2 = 0) : ∃ v, findP A n = some v := by
  unfold plC at h
  cases e : findP A n with
  | none => rw [e] at h; cases h
  | some v => exact ⟨v, rfl⟩
theorem exC_parts {A L : List Par} {dark : Bool} {e : Ex} (h : (exC A L dark e).2 = 0) : TyEx A L dark e := by
  rw [exC_eq] at h
  by_cases h0 : (exsC A L dark e.args false).2 = 0
  case neg => rw [if_pos h0] at h; exact absurd h h0
  rw [if_neg (not_not_intro h0)] at h
  refine ⟨exs_ok h0, fun k2 => ?_, fun k5 => ?_⟩
  · rw [if_pos k2] at h
    cases e2 : findP L e.name with
    | none => rw [e2] at h; cases h
    | some v => exact ⟨v, rfl⟩
  · rw [if_neg (by rw [k5]; decide), if_pos k5] at h
    exact plC_some h
theorem arrI_lt {A : List Par} {n : List UInt8} {v : Par} (h : findP A n = some v) : arrI A n < A.length := by
  unfold arrI
  rw [List.findIdx_lt_length]
  have h1 : ∃ (m : Nat) (p : Par), A[m]? = some p ∧ p.name = n := by
    have key : ∀ k, 0 ≤ nameTo A n k → ∃ (m : Nat) (p : Par), A[m]? = some p ∧ p.name = n := by
      intro k
      induction k with
      | zero => intro h; exact absurd h (by show ¬ (0 : Int) ≤ -1; omega)
      | succ k ih =>
        intro h
        unfold nameTo at h
        split at h
        · rename_i hx
          cases e : A[k]? with
          | none => rw [e] at hx; cases hx
          | some p => rw [e] at hx; injection hx with hx; exact ⟨k, p, e, hx⟩
        · exact ih h
    refine key A.length ?_
    by_cases h0 : nameI A n < 0
    · rw [findP_none h0] at h; cases h
    · unfold nameI at h0; omega
  obtain ⟨m, p, e1, e2⟩ := h1
  exact ⟨p, List.mem_of_getElem? e1, by simpa using e2⟩
end Ev
