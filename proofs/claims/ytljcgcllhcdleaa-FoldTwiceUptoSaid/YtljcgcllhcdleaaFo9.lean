import Derived.Test.YtljcgcllhcdleaaFo8
import Derived.Test.YtljcgcllhcdleaaFo2
import Derived.Test.YtljcgcllhcdleaaProg
import Derived.Deep.MidRow
/- Chapter 9, in plain words: what is not used goes. -/
namespace Ev
def onNext (i : Instr) : Bool := !decide (i.op = 18 ∨ i.op = 20 ∨ i.op = 21)
def onFar (i : Instr) : Bool := decide (i.op = 18 ∨ i.op = 19)
/-- what is live ahead of an instruction, of what is live behind it -/
def liveStep (i : Instr) (out : Int → Bool) : Int → Bool :=
  if (makes i && !out i.d) = true then out else fun p => (out p && !(makes i && decide (p = i.d))) || decide (p ∈ reads i)
/-- what is live ahead of the k-th -/
def livein (l : List Instr) (k : Nat) : Int → Bool :=
  if h : k < l.length then
    liveStep l[k] (fun p => (onNext l[k] && livein l (k + 1) p) || (if hj : k < l[k].imm.toNat then onFar l[k] && livein l l[k].imm.toNat p else false))
  else fun _ => false
termination_by l.length - k
decreasing_by all_goals omega
/-- what is live behind it -/
def liveOut (l : List Instr) (k : Nat) (i : Instr) (p : Int) : Bool := (onNext i && livein l (k + 1) p) || (if k < i.imm.toNat then onFar i && livein l i.imm.toNat p else false)
theorem livein_at {l : List Instr} {k : Nat} {i : Instr} (h : l[k]? = some i) : livein l k = liveStep i (liveOut l k i) := by
  obtain ⟨hk, rfl⟩ := List.getElem?_eq_some_iff.1 h
  rw [livein, dif_pos hk]
  congr 1
theorem livein_end {l : List Instr} {k : Nat} (h : l.length ≤ k) : livein l k = fun _ => false := by rw [livein, dif_neg (by omega)]
def keeps (i : Instr) (out : Int → Bool) : Bool := !makes i || out i.d
def keptAt (l : List Instr) (k : Nat) : Bool := match l[k]? with | none => false | some i => keeps i (liveOut l k i)
theorem keptAt_at {l : List Instr} {k : Nat} {i : Instr} (h : l[k]? = some i) : keptAt l k = keeps i (liveOut l k i) := by unfold keptAt; rw [h]
theorem live_gone {l : List Instr} {k : Nat} {i : Instr} (h : l[k]? = some i) (hk : keptAt l k = false) : makes i = true ∧ liveOut l k i i.d = false ∧ livein l k = liveOut l k i := by
  rw [keptAt_at h] at hk
  unfold keeps at hk
  have h1 : makes i = true ∧ liveOut l k i i.d = false := by simpa using hk
  refine ⟨h1.1, h1.2, ?_⟩
  rw [livein_at h]
  unfold liveStep
  rw [if_pos (by rw [h1.1, h1.2]; rfl)]
theorem live_kept {l : List Instr} {k : Nat} {i : Instr} (h : l[k]? = some i) (hk : keptAt l k = true) (p : Int) : livein l k p = ((liveOut l k i p && !(makes i && decide (p = i.d))) || decide (p ∈ reads i)) := by
  rw [keptAt_at h] at hk
  unfold keeps at hk
  rw [livein_at h]
  unfold liveStep
  rw [if_neg (by intro h2; cases hm : makes i <;> rw [hm] at hk h2 <;> simp_all)]
theorem out_makes {l : List Instr} {k : Nat} {i : Instr} (h : makes i = true) (p : Int) : liveOut l k i p = livein l (k + 1) p := by
  have h1 := makes_iff.1 h
  unfold liveOut onNext onFar
  rw [decide_eq_false (by omega), decide_eq_false (by omega)]
  simp
def nowK (l : List Instr) : Nat → Nat
  | 0 => 0
  | k + 1 => nowK l k + if keptAt l k then 1 else 0
def usedTo (l : List Instr) : Nat → List Instr
  | 0 => []
  | k + 1 => usedTo l k ++ if keptAt l k then [l.getD k default] else []
/-- an instruction that leads on leads to where that is now -/
def relK (l : List Instr) (i : Instr) : Instr := if i.op = 18 ∨ i.op = 19 then { i with imm := (nowK l i.imm.toNat : Int) } else i
def usedCode (l : List Instr) : List Instr := (usedTo l l.length).map (relK l)
def usedF (f : Flat) : Flat := { f with code := usedCode f.code }
def foldF (f : Flat) : Flat := usedF (numbersF f)
theorem usedTo_len (l : List Instr) : ∀ k, (usedTo l k).length = nowK l k
  | 0 => rfl
  | k + 1 => by
    unfold usedTo nowK
    rw [List.length_append, usedTo_len l k]
    split <;> rfl
theorem nowK_on {l : List Instr} {k : Nat} (h : keptAt l k = true) : nowK l (k + 1) = nowK l k + 1 := by conv => lhs; unfold nowK; rw [if_pos h]
theorem nowK_off {l : List Instr} {k : Nat} (h : keptAt l k = false) : nowK l (k + 1) = nowK l k := by conv => lhs; unfold nowK; rw [h]; simp
theorem nowK_mono (l : List Instr) : ∀ (n k : Nat), nowK l k ≤ nowK l (k + n)
  | 0, k => Nat.le_refl _
  | n + 1, k => by
    have h1 := nowK_mono l n k
    cases h : keptAt l (k + n) with
    | true => rw [show k + (n + 1) = k + n + 1 by omega, nowK_on h]; omega
    | false => rw [show k + (n + 1) = k + n + 1 by omega, nowK_off h]; exact h1
theorem nowK_le (l : List Instr) : ∀ k, nowK l k ≤ k
  | 0 => Nat.le_refl _
  | k + 1 => by
    have := nowK_le l k
    cases h : keptAt l k with
    | true => rw [nowK_on h]; omega
    | false => rw [nowK_off h]; omega
theorem usedTo_pre (l : List Instr) : ∀ (n k q : Nat), q < nowK l k → (usedTo l (k + n))[q]? = (usedTo l k)[q]?
  | 0, k, q, _ => rfl
  | n + 1, k, q, h => by
    rw [show k + (n + 1) = k + n + 1 by omega, show usedTo l (k + n + 1) = usedTo l (k + n) ++ (if keptAt l (k + n) then [l.getD (k + n) default] else []) from rfl]
    have h1 := nowK_mono l n k
    rw [List.getElem?_append_left (by rw [usedTo_len]; omega)]
    exact usedTo_pre l n k q h
theorem usedTo_at {l : List Instr} {k m : Nat} {i : Instr} (h : l[k]? = some i) (hk : keptAt l k = true) (hm : k < m) : (usedTo l m)[nowK l k]? = some i := by
  have h1 := usedTo_pre l (m - (k + 1)) (k + 1) (nowK l k) (by rw [nowK_on hk]; omega)
  rw [show k + 1 + (m - (k + 1)) = m by omega] at h1
  rw [h1]
  unfold usedTo
  rw [List.getElem?_append_right (by rw [usedTo_len]; exact Nat.le_refl _), usedTo_len, Nat.sub_self, if_pos hk, List.getD_eq_getElem?_getD, h]
  rfl
theorem usedTo_cov (l : List Instr) : ∀ (m q : Nat) (x : Instr), m ≤ l.length → (usedTo l m)[q]? = some x → ∃ k, k < m ∧ l[k]? = some x ∧ keptAt l k = true ∧ nowK l k = q
  | 0, q, x, _, h => by simp [usedTo] at h
  | m + 1, q, x, hm, h => by
    rcases Nat.lt_or_ge q (nowK l m) with h1 | h1
    · unfold usedTo at h
      rw [List.getElem?_append_left (by rw [usedTo_len]; omega)] at h
      obtain ⟨k, h2, h3, h4, h5⟩ := usedTo_cov l m q x (by omega) h
      exact ⟨k, by omega, h3, h4, h5⟩
    · unfold usedTo at h
      rw [List.getElem?_append_right (by rw [usedTo_len]; exact h1), usedTo_len] at h
      cases hk : keptAt l m with
      | false => rw [hk] at h; simp at h
      | true =>
        rw [hk] at h
        have hi : l[m]? = some l[m] := List.getElem?_eq_getElem (by omega)
        rcases Nat.eq_zero_or_pos (q - nowK l m) with h0 | h0
        · rw [h0, List.getD_eq_getElem?_getD, hi] at h
          simp at h
          exact ⟨m, by omega, by rw [hi, h], hk, by omega⟩
        · rw [List.getElem?_eq_none (by simp; omega)] at h
          cases h
theorem used_len (l : List Instr) : (usedCode l).length = nowK l l.length := by unfold usedCode; rw [List.length_map, usedTo_len]
theorem used_at {l : List Instr} {k : Nat} {i : Instr} (h : l[k]? = some i) (hk : keptAt l k = true) : (usedCode l)[nowK l k]? = some (relK l i) := by
  unfold usedCode
  rw [List.getElem?_map, usedTo_at h hk (List.getElem?_eq_some_iff.1 h).1]
  rfl
theorem used_cov {l : List Instr} {q : Nat} {x : Instr} (h : (usedCode l)[q]? = some x) : ∃ k i, l[k]? = some i ∧ keptAt l k = true ∧ nowK l k = q ∧ x = relK l i := by
  unfold usedCode at h
  rw [List.getElem?_map] at h
  cases hx : (usedTo l l.length)[q]? with
  | none => rw [hx] at h; cases h
  | some i =>
    rw [hx] at h
    simp at h
    obtain ⟨k, _, h3, h4, h5⟩ := usedTo_cov l _ q i (Nat.le_refl _) hx
    exact ⟨k, i, h3, h4, h5, h.symm⟩
theorem relK_op (l : List Instr) (i : Instr) : (relK l i).op = i.op ∧ (relK l i).a = i.a ∧ (relK l i).d = i.d ∧ (relK l i).b = i.b ∧ (relK l i).c = i.c := by unfold relK; split <;> exact ⟨rfl, rfl, rfl, rfl, rfl⟩
theorem relK_not {l : List Instr} {i : Instr} (h : ¬ (i.op = 18 ∨ i.op = 19)) : relK l i = i := by unfold relK; rw [if_neg h]
theorem reads_relK (l : List Instr) (i : Instr) : reads (relK l i) = reads i := by
  obtain ⟨h1, h2, h3, h4, h5⟩ := relK_op l i
  unfold reads
  rw [h1, h2, h3, h4, h5]
theorem makes_relK (l : List Instr) (i : Instr) : makes (relK l i) = makes i := by
  unfold makes
  rw [(relK_op l i).1]
theorem relK_jump {l : List Instr} {i : Instr} (h : i.op = 18 ∨ i.op = 19) : (relK l i).imm = (nowK l i.imm.toNat : Int) := by unfold relK; rw [if_pos h]
/-! ### It is right -/
theorem kept_not {l : List Instr} {k : Nat} {i : Instr} (h : l[k]? = some i) (hm : makes i = false) : keptAt l k = true := by rw [keptAt_at h]; unfold keeps; rw [hm]; rfl
theorem last_not {f : Flat} (hr : Right f) : ∃ i, f.code[f.code.length - 1]? = some i ∧ makes i = false ∧ lastOp f = i.op := by
  have h1 := hr.len1
  have hi : f.code[f.code.length - 1]? = some f.code[f.code.length - 1] := List.getElem?_eq_getElem (by omega)
  have e : lastOp f = f.code[f.code.length - 1].op := by unfold lastOp; rw [List.getD_eq_getElem?_getD, hi]; rfl
  refine ⟨_, hi, ?_, e⟩
  have hl := hr.last
  rw [makes_no]
  omega
theorem used_pos {f : Flat} (hr : Right f) {k : Nat} (hk : k < f.code.length) : nowK f.code k < nowK f.code f.code.length := by
  have h1 := hr.len1
  obtain ⟨i, hi, hm, _⟩ := last_not hr
  have h2 := nowK_on (kept_not hi hm)
  rw [show f.code.length - 1 + 1 = f.code.length by omega] at h2
  have h3 := nowK_mono f.code (f.code.length - 1 - k) k
  rw [show k + (f.code.length - 1 - k) = f.code.length - 1 by omega] at h3
  omega
theorem jump_kept {l : List Instr} {k : Nat} {i : Instr} (h : l[k]? = some i) (ho : i.op = 18 ∨ i.op = 19) : keptAt l k = true := kept_not h (makes_no.2 (by omega))
theorem used_sound {f : Flat} (hr : Right f) {k : Nat} {i : Instr} (hi : f.code[k]? = some i) (hk : keptAt f.code k = true) : Sound (usedF f) (nowK f.code k) (relK f.code i) := by
  have hs := hr.sound hi
  have hj : i.op = 18 ∨ i.op = 19 → ((nowK f.code k : Nat) : Int) < (relK f.code i).imm ∧ (relK f.code i).imm < (usedF f).code.length := fun ho => by
    have h1 := hs.jump ho
    rw [relK_jump ho]
    have h2 := nowK_mono f.code (i.imm.toNat - (k + 1)) (k + 1)
    rw [show k + 1 + (i.imm.toNat - (k + 1)) = i.imm.toNat by omega, nowK_on hk] at h2
    have h3 := used_pos hr (k := i.imm.toNat) (by omega)
    have h4 : (usedF f).code.length = nowK f.code f.code.length := used_len _
    rw [h4]
    omega
  refine sound_same (s := []) hs (by simp [usedF]) rfl (relK_op f.code i) ?_ hj
  by_cases ho : i.op = 18 ∨ i.op = 19
  · exact .inr ⟨ho, hj ho⟩
  · exact .inl (by rw [relK_not ho])
theorem used_right {f : Flat} (hr : Right f) : Right (usedF f) := by
  have h1 := hr.len1
  have h2 := hr.len2
  have hlen : (usedF f).code.length = nowK f.code f.code.length := used_len _
  have h3 := used_pos hr (k := 0) (by omega)
  have h4 := nowK_le f.code f.code.length
  refine ⟨by omega, by omega, hr.p0, hr.p1, fun q x hq => ?_, ?_⟩
  · obtain ⟨k, i, hi, hk, rfl, rfl⟩ := used_cov hq
    exact checkAt_sound (used_sound hr hi hk)
  · obtain ⟨i, hi, hm, e⟩ := last_not hr
    have hk := kept_not hi hm
    have h5 := nowK_on hk
    rw [show f.code.length - 1 + 1 = f.code.length by omega] at h5
    have h6 := used_at hi hk
    have : lastOp (usedF f) = i.op := by
      unfold lastOp
      rw [hlen, h5, Nat.add_sub_cancel, List.getD_eq_getElem?_getD, show (usedF f).code[nowK f.code (f.code.length - 1)]? = _ from h6]
      exact (relK_op f.code i).1
    rw [this, ← e]
    exact hr.last
theorem used_short (f : Flat) : (usedF f).code.length ≤ f.code.length := by
  show (usedCode f.code).length ≤ _
  rw [used_len]
  exact nowK_le _ _
/-! ### It ends the same -/
structure LiveEq (l : List Instr) (k : Nat) (s u : St) : Prop where
  arrs : s.arrs = u.arrs
  mode : s.mode = u.mode
  len : s.v.length = u.v.length
  at_ : ∀ p, 0 ≤ p → livein l k p = true → val s.v p = val u.v p
theorem LiveEq.reads {l : List Instr} {k : Nat} {i : Instr} {s u : St} (h : LiveEq l k s u) (hi : l[k]? = some i) (hk : keptAt l k = true) (h0 : ∀ p ∈ reads i, 0 ≤ p) : ∀ p ∈ reads i, val s.v p = val u.v p := fun p hp =>
  h.at_ p (h0 p hp) (by rw [live_kept hi hk, decide_eq_true hp]; simp)
theorem LiveEq.out {l : List Instr} {k k' : Nat} {i : Instr} {s u : St} (h : LiveEq l k s u) (hi : l[k]? = some i) (hk : keptAt l k = true) (hm : makes i = false) (ho : ∀ p, livein l k' p = true → liveOut l k i p = true) : LiveEq l k' s u :=
  ⟨h.arrs, h.mode, h.len, fun p h0 hp => h.at_ p h0 (by rw [live_kept hi hk, ho p hp, hm]; simp)⟩
theorem val_other {v : List Int} {d p x : Int} (hd : 0 ≤ d) (hp : 0 ≤ p) (h : p ≠ d) : val (v.set d.toNat x) p = val v p := by
  unfold val
  rw [List.getD_eq_getElem?_getD, List.getD_eq_getElem?_getD, List.getElem?_set_ne (by omega)]
theorem used_sim {f : Flat} (hr : Right f) (t : List Int) : ∀ (n k n' : Nat) (s u : St), f.code.length ≤ n + k → k < f.code.length → (usedCode f.code).length ≤ n' + nowK f.code k → Fine f s → LiveEq f.code k s u →
    (runFrom f.code t n k s).1 = (runFrom (usedCode f.code) t n' (nowK f.code k) u).1
  | 0, k, n', s, u, hn, hk, _, _, _ => by omega
  | n + 1, k, n', s, u, hn, hk, hn', hF, hE => by
    obtain ⟨i, hi⟩ : ∃ i, f.code[k]? = some i := ⟨f.code[k], List.getElem?_eq_getElem hk⟩
    have hs := hr.sound hi
    have hF' := hF.step hs
    have hop := hs.op
    have hpos := used_pos hr hk
    rw [used_len] at hn'
    cases hkp : keptAt f.code k with
    | false =>
      obtain ⟨hm, hd, hl⟩ := live_gone hi hkp
      have hst := step_makes (i := i) (k := k) (s := s) hm
      have hon := step_on hr hi (by rw [hst])
      rw [hst] at hF'
      rw [runFrom_on hi hst]
      have := used_sim hr t n (k + 1) n' { s with v := s.v.set i.d.toNat (madeVal i s) } u (by omega) hon.2 (by rw [used_len, nowK_off hkp]; exact hn') hF' ⟨hE.arrs, hE.mode, by rw [← hE.len]; simp, fun p h0 hp => ?_⟩
      · rw [nowK_off hkp] at this
        exact this
      · have hne : p ≠ i.d := fun e => by
          rw [e, ← out_makes hm, hd] at hp
          cases hp
        rw [val_other (hs.makes (makes_iff.1 hm).2).1 h0 hne]
        exact hE.at_ p h0 (by rw [hl, out_makes hm]; exact hp)
    | true =>
      obtain ⟨n2, rfl⟩ : ∃ n2, n' = n2 + 1 := ⟨n' - 1, by omega⟩
      have hx := used_at hi hkp
      have hrd := hE.reads hi hkp (fun p hp => (hs.reads p hp).1)
      obtain ⟨e1, e2, e3, e4, e5⟩ := relK_op f.code i
      by_cases hm : makes i = true
      · have hne : relK f.code i = i := relK_not (by have := makes_iff.1 hm; omega)
        rw [hne] at hx
        have hst := step_makes (i := i) (k := k) (s := s) hm
        have hst2 := step_makes (i := i) (k := nowK f.code k) (s := u) hm
        have hon := step_on hr hi (by rw [hst])
        rw [hst] at hF'
        rw [runFrom_on hi hst, runFrom_on hx hst2]
        have := used_sim hr t n (k + 1) n2 { s with v := s.v.set i.d.toNat (madeVal i s) } { u with v := u.v.set i.d.toNat (madeVal i u) } (by omega) hon.2 (by rw [used_len, nowK_on hkp]; omega) hF' ⟨hE.arrs, hE.mode, by simpa using hE.len, fun p h0 hp => ?_⟩
        · rw [nowK_on hkp] at this
          exact this
        · have hd := hs.makes (makes_iff.1 hm).2
          rw [madeVal_same hm hE.arrs hrd, val_set hd.1 h0 (by rw [hF.len]; exact hd.2), val_set hd.1 h0 (by rw [← hE.len, hF.len]; exact hd.2)]
          by_cases e : p = i.d
          · rw [if_pos e, if_pos e]
          · rw [if_neg e, if_neg e]
            refine hE.at_ p h0 ?_
            rw [live_kept hi hkp, out_makes hm, hp, decide_eq_false e]
            simp
      · have hm : makes i = false := by simpa using hm
        have hmo := makes_no.1 hm
        have onw : onNext i = true → ∀ p, livein f.code (k + 1) p = true → liveOut f.code k i p = true := fun h1 p hp => by unfold liveOut; rw [h1, hp]; rfl
        rcases (show i.op = 17 ∨ i.op = 18 ∨ i.op = 19 ∨ (i.op = 20 ∨ i.op = 21) by omega) with h1 | h1 | h1 | h1
        · have hst := step_store (k := k) (s := s) h1
          have hst2 := step_store (k := nowK f.code k) (s := u) h1
          have hne : relK f.code i = i := relK_not (by omega)
          rw [hne] at hx
          have hon := step_on hr hi (by rw [hst])
          rw [hst] at hF'
          rw [runFrom_on hi hst, runFrom_on hx hst2]
          rw [reads_store h1] at hrd
          have h2 := hE.out (k' := k + 1) hi hkp hm (onw (by unfold onNext; rw [decide_eq_false (by omega)]; rfl))
          rw [← hrd i.a (by simp), ← hrd i.d (by simp), ← hE.arrs]
          have := used_sim hr t n (k + 1) n2 (if val s.v i.a < (s.arrs.getD i.b.toNat []).length then { s with arrs := s.arrs.set i.b.toNat ((s.arrs.getD i.b.toNat []).set (val s.v i.a).toNat (val s.v i.d)) } else s) (if val s.v i.a < (s.arrs.getD i.b.toNat []).length then { u with arrs := s.arrs.set i.b.toNat ((s.arrs.getD i.b.toNat []).set (val s.v i.a).toNat (val s.v i.d)) } else u) (by omega) hon.2 (by rw [used_len, nowK_on hkp]; omega) hF' ?_
          · rw [nowK_on hkp] at this
            exact this
          · split
            · exact ⟨rfl, h2.mode, h2.len, h2.at_⟩
            · exact h2
        · have hj := hs.jump (.inl h1)
          have hst := step_jump (k := k) (s := s) h1
          have hst2 : step (relK f.code i) (nowK f.code k) u = (u, some (nowK f.code i.imm.toNat)) := by rw [step_jump (by rw [e1]; exact h1), relK_jump (.inl h1)]; simp
          rw [runFrom_on hi hst, runFrom_on hx hst2]
          have hb := nowK_mono f.code (i.imm.toNat - (k + 1)) (k + 1)
          rw [show k + 1 + (i.imm.toNat - (k + 1)) = i.imm.toNat by omega, nowK_on hkp] at hb
          exact used_sim hr t n _ n2 s u (by omega) (by omega) (by rw [used_len]; omega) hF (hE.out hi hkp hm (fun p hp => by unfold liveOut onFar; rw [if_pos (by omega), decide_eq_true (.inl h1), hp]; simp))
        · have hj := hs.jump (.inr h1)
          rw [reads_a (by omega)] at hrd
          have hva := hrd i.a (by simp)
          have hb := nowK_mono f.code (i.imm.toNat - (k + 1)) (k + 1)
          rw [show k + 1 + (i.imm.toNat - (k + 1)) = i.imm.toNat by omega, nowK_on hkp] at hb
          by_cases h0 : val s.v i.a = 0
          · have hst := step_zero_yes (k := k) h1 h0
            have hst2 : step (relK f.code i) (nowK f.code k) u = (u, some (nowK f.code i.imm.toNat)) := by rw [step_zero_yes (by rw [e1]; exact h1) (by rw [e2, ← hva]; exact h0), relK_jump (.inr h1)]; simp
            rw [runFrom_on hi hst, runFrom_on hx hst2]
            exact used_sim hr t n _ n2 s u (by omega) (by omega) (by rw [used_len]; omega) hF (hE.out hi hkp hm (fun p hp => by unfold liveOut onFar; rw [if_pos (by omega), decide_eq_true (.inr h1), hp]; simp))
          · have hst := step_zero_no (k := k) h1 h0
            have hst2 : step (relK f.code i) (nowK f.code k) u = (u, some (nowK f.code k + 1)) := step_zero_no (by rw [e1]; exact h1) (by rw [e2, ← hva]; exact h0)
            have hon := step_on hr hi (by rw [hst])
            rw [runFrom_on hi hst, runFrom_on hx hst2]
            have := used_sim hr t n (k + 1) n2 s u (by omega) hon.2 (by rw [used_len, nowK_on hkp]; omega) hF (hE.out hi hkp hm (onw (by unfold onNext; rw [decide_eq_false (by omega)]; rfl)))
            rw [nowK_on hkp] at this
            exact this
        · have hst := step_end (k := k) (s := s) h1
          have hst2 := step_end (i := relK f.code i) (k := nowK f.code k) (s := u) (by rw [e1]; exact h1)
          rw [runFrom_end hi hst, runFrom_end hx hst2]
          show endOf i s = endOf (relK f.code i) u
          unfold endOf
          rw [e1, e2, hE.arrs]
          by_cases h21 : i.op = 21
          · rw [if_pos h21, if_pos h21]
          · rw [reads_a (by omega)] at hrd
            rw [if_neg h21, if_neg h21, hrd i.a (by simp)]
theorem used_run {f : Flat} {g : Given} (hr : Right f) (hF : Fine f (start f.secret.length g)) (t : List Int) : (run f t g).1 = (run (usedF f) t g).1 := by
  have h1 := hr.len1
  unfold run
  exact used_sim hr t _ 0 _ _ _ (by omega) (by omega) (by show _ ≤ (usedCode f.code).length + 0; omega) hF ⟨rfl, rfl, rfl, fun _ _ _ => rfl⟩
end Ev
/- Chapter 9, in plain words: nothing is made for nothing; once is enough; nothing more is seen. -/
namespace Ev
theorem step_rel (l : List Instr) (i : Instr) (out out' : Int → Bool) (h : ∀ p, out p = true → out' p = true) (hk : keeps i out = true) : keeps (relK l i) out' = true ∧ ∀ p, liveStep i out p = true → liveStep (relK l i) out' p = true := by
  obtain ⟨e1, e2, e3, e4, e5⟩ := relK_op l i
  have hk' : keeps (relK l i) out' = true := by
    unfold keeps at hk ⊢
    rw [makes_relK, e3]
    cases hm : makes i with
    | false => rfl
    | true => rw [hm] at hk; rw [h _ (by simpa using hk)]; rfl
  refine ⟨hk', fun p hp => ?_⟩
  unfold liveStep at hp ⊢
  have n1 : ¬ (makes i && !out i.d) = true := by unfold keeps at hk; cases hm : makes i <;> rw [hm] at hk <;> simp_all
  have n2 : ¬ (makes (relK l i) && !out' (relK l i).d) = true := by unfold keeps at hk'; cases hm : makes (relK l i) <;> rw [hm] at hk' <;> simp_all
  rw [if_neg n1] at hp
  rw [if_neg n2, reads_relK, makes_relK, e3]
  (try dsimp only at hp ⊢)
  cases hr : decide (p ∈ reads i) with
  | true => simp
  | false =>
    rw [hr] at hp
    simp only [Bool.or_false, Bool.and_eq_true] at hp ⊢
    exact ⟨h p hp.1, hp.2⟩
/-- what is live in the old one is live in the new one -/
theorem live_used {f : Flat} (hr : Right f) : ∀ (n k : Nat), f.code.length ≤ n + k → k ≤ f.code.length → (∀ p, livein f.code k p = true → livein (usedCode f.code) (nowK f.code k) p = true) ∧ (k < f.code.length → keptAt f.code k = true → keptAt (usedCode f.code) (nowK f.code k) = true)
  | 0, k, hn, hk => by
    refine ⟨fun p hp => ?_, fun h => by omega⟩
    rw [livein_end (by omega)] at hp
    cases hp
  | n + 1, k, hn, hk => by
    by_cases hlt : k < f.code.length
    · obtain ⟨i, hi⟩ : ∃ i, f.code[k]? = some i := ⟨f.code[k], List.getElem?_eq_getElem hlt⟩
      have hs := hr.sound hi
      have ih := live_used hr n (k + 1) (by omega) (by omega)
      cases hkp : keptAt f.code k with
      | false =>
        obtain ⟨hm, hd, hl⟩ := live_gone hi hkp
        refine ⟨fun p hp => ?_, fun _ h => by cases h⟩
        rw [hl, out_makes hm] at hp
        have := ih.1 p hp
        rw [nowK_off hkp] at this
        exact this
      | true =>
        have hx := used_at hi hkp
        have ho : ∀ p, liveOut f.code k i p = true → liveOut (usedCode f.code) (nowK f.code k) (relK f.code i) p = true := fun p hp => by
          unfold liveOut at hp ⊢
          rw [Bool.or_eq_true] at hp ⊢
          have e1 : onNext (relK f.code i) = onNext i := by unfold onNext; rw [(relK_op f.code i).1]
          have e2 : onFar (relK f.code i) = onFar i := by unfold onFar; rw [(relK_op f.code i).1]
          rw [e1, e2]
          rcases hp with hp | hp
          · left
            rw [Bool.and_eq_true] at hp ⊢
            refine ⟨hp.1, ?_⟩
            have := ih.1 p hp.2
            rw [nowK_on hkp] at this
            exact this
          · right
            by_cases hj : k < i.imm.toNat
            · rw [if_pos hj, Bool.and_eq_true] at hp
              have hof : i.op = 18 ∨ i.op = 19 := by have := hp.1; unfold onFar at this; simpa using this
              have hjj := hs.jump hof
              have h2 := nowK_mono f.code (i.imm.toNat - (k + 1)) (k + 1)
              rw [show k + 1 + (i.imm.toNat - (k + 1)) = i.imm.toNat by omega, nowK_on hkp] at h2
              rw [relK_jump hof, if_pos (by simp; omega), Bool.and_eq_true]
              refine ⟨hp.1, ?_⟩
              have := (live_used hr n i.imm.toNat (by omega) (by omega)).1 p hp.2
              simpa using this
            · rw [if_neg hj] at hp; cases hp
        have hkk := hkp
        rw [keptAt_at hi] at hkk
        have := step_rel f.code i _ _ ho hkk
        refine ⟨fun p hp => ?_, fun _ _ => by rw [keptAt_at hx]; exact this.1⟩
        rw [livein_at hi] at hp
        rw [livein_at hx]
        exact this.2 p hp
    · refine ⟨fun p hp => ?_, fun h => by omega⟩
      rw [livein_end (by omega)] at hp
      cases hp
/-- all of it is kept -/
theorem used_all {f : Flat} (hr : Right f) {q : Nat} (hq : q < (usedCode f.code).length) : keptAt (usedCode f.code) q = true := by
  obtain ⟨k, i, hi, hk, rfl, _⟩ := used_cov (List.getElem?_eq_getElem hq)
  have hlt := (List.getElem?_eq_some_iff.1 hi).1
  exact (live_used hr f.code.length k (by omega) (by omega)).2 hlt hk
theorem nowK_all {l : List Instr} (h : ∀ q, q < l.length → keptAt l q = true) : ∀ k, k ≤ l.length → nowK l k = k
  | 0, _ => rfl
  | k + 1, hk => by rw [nowK_on (h k (by omega)), nowK_all h k (by omega)]
theorem used_twice {f : Flat} (hr : Right f) : (usedF (usedF f)).code.length = (usedF f).code.length := by
  show (usedCode (usedCode f.code)).length = (usedCode f.code).length
  rw [used_len, nowK_all (fun q hq => used_all hr hq) _ (Nat.le_refl _)]
/-! ### Reading -/
def onPut (w : Int → Bool) (p : Int) : Int → Bool := fun q => if q = p then true else w q
/-- is a place read, from an instruction on, on some way, ahead of being made anew? -/
def readFrom (l : List Instr) (p : Int) : Nat → Nat → (Int → Bool) → Bool
  | 0, _, _ => false
  | n + 1, k, on =>
    if on (k : Int) = false then readFrom l p n (k + 1) on
    else if p ∈ reads (l.getD k default) then true
    else if (makes (l.getD k default) = true ∧ (l.getD k default).d = p) ∨ (l.getD k default).op = 20 ∨ (l.getD k default).op = 21 then readFrom l p n (k + 1) on
    else
      let on1 := if (l.getD k default).op = 18 ∨ (l.getD k default).op = 19 then onPut on (l.getD k default).imm else on
      readFrom l p n (k + 1) (if (l.getD k default).op = 18 then on1 else onPut on1 ((k + 1 : Nat) : Int))
def readIn (l : List Instr) (at_ : Nat) (p : Int) : Bool := readFrom l p (l.length - at_) at_ (onPut (fun _ => false) (at_ : Int))
theorem onPut_mono (w : Int → Bool) (p q : Int) (h : w q = true) : onPut w p q = true := by unfold onPut; split <;> first | rfl | exact h
theorem onPut_self (w : Int → Bool) (p : Int) : onPut w p p = true := by unfold onPut; rw [if_pos rfl]
theorem read_live {f : Flat} (hr : Right f) {p : Int} : ∀ (n k : Nat) (on : Int → Bool), f.code.length = n + k → (∃ q : Nat, k ≤ q ∧ on (q : Int) = true ∧ livein f.code q p = true) → readFrom f.code p n k on = true
  | 0, k, on, hn, ⟨q, h1, _, h3⟩ => by rw [livein_end (by omega)] at h3; cases h3
  | n + 1, k, on, hn, ⟨q, h1, h2, h3⟩ => by
    obtain ⟨i, hi⟩ : ∃ i, f.code[k]? = some i := ⟨f.code[k], List.getElem?_eq_getElem (by omega)⟩
    have hg : f.code.getD k default = i := by rw [List.getD_eq_getElem?_getD, hi]; rfl
    have hs := hr.sound hi
    unfold readFrom
    rw [hg]
    by_cases c1 : on (k : Int) = false
    · rw [if_pos c1]
      refine read_live hr n (k + 1) on (by omega) ⟨q, ?_, h2, h3⟩
      rcases Nat.lt_or_ge k q with h | h
      · omega
      · have : q = k := by omega
        subst this
        rw [h2] at c1; cases c1
    rw [if_neg c1]
    by_cases c2 : p ∈ reads i
    · rw [if_pos c2]
    rw [if_neg c2]
    have hlive : livein f.code k p = true → liveOut f.code k i p = true ∧ ¬ (makes i = true ∧ i.d = p) := fun h => by
      cases hkp : keptAt f.code k with
      | false =>
        obtain ⟨hm, hd, hl⟩ := live_gone hi hkp
        rw [hl] at h
        exact ⟨h, fun ⟨_, e⟩ => by rw [e, h] at hd; cases hd⟩
      | true =>
        rw [live_kept hi hkp, decide_eq_false c2] at h
        simp only [Bool.or_false, Bool.and_eq_true] at h
        refine ⟨h.1, fun ⟨hm, e⟩ => ?_⟩
        rw [hm, decide_eq_true e.symm] at h
        exact absurd h.2 (by simp)
    by_cases c3 : (makes i = true ∧ i.d = p) ∨ i.op = 20 ∨ i.op = 21
    · rw [if_pos c3]
      refine read_live hr n (k + 1) on (by omega) ⟨q, ?_, h2, h3⟩
      rcases Nat.lt_or_ge k q with h | h
      · omega
      · have : q = k := by omega
        subst this
        obtain ⟨h4, h5⟩ := hlive h3
        exfalso
        rcases c3 with c3 | c3
        · exact h5 c3
        · unfold liveOut onNext onFar at h4
          rw [decide_eq_true (by omega), decide_eq_false (by omega)] at h4
          simp at h4
    rw [if_neg c3]
    dsimp only
    refine read_live hr n (k + 1) _ (by omega) ?_
    rcases Nat.lt_or_ge k q with h | h
    · refine ⟨q, by omega, ?_, h3⟩
      have : (if i.op = 18 ∨ i.op = 19 then onPut on i.imm else on) (q : Int) = true := by
        split
        · exact onPut_mono _ _ _ h2
        · exact h2
      by_cases c18 : i.op = 18
      · rw [if_pos c18]; exact this
      · rw [if_neg c18]; exact onPut_mono _ _ _ this
    · have : q = k := by omega
      subst this
      obtain ⟨h4, h5⟩ := hlive h3
      unfold liveOut at h4
      rw [Bool.or_eq_true] at h4
      rcases h4 with h4 | h4
      · rw [Bool.and_eq_true] at h4
        refine ⟨q + 1, Nat.le_refl _, ?_, h4.2⟩
        have : ¬ i.op = 18 := by have := h4.1; unfold onNext at this; simp at this; omega
        rw [if_neg this]
        exact onPut_self _ _
      · by_cases hj : q < i.imm.toNat
        · rw [if_pos hj, Bool.and_eq_true] at h4
          have hof : i.op = 18 ∨ i.op = 19 := by have := h4.1; unfold onFar at this; simpa using this
          refine ⟨i.imm.toNat, by omega, ?_, h4.2⟩
          have : (if i.op = 18 ∨ i.op = 19 then onPut on i.imm else on) (i.imm.toNat : Int) = true := by
            rw [if_pos hof, show ((i.imm.toNat : Nat) : Int) = i.imm by omega]
            exact onPut_self _ _
          by_cases c18 : i.op = 18
          · rw [if_pos c18]; exact this
          · rw [if_neg c18]; exact onPut_mono _ _ _ this
        · rw [if_neg hj] at h4; cases h4
/-- each that makes something is read behind it -/
theorem used_read {f : Flat} (hr : Right f) {q : Nat} {i : Instr} (hi : (usedF f).code[q]? = some i) (hm : makes i = true) : readIn (usedF f).code (q + 1) i.d = true := by
  have hq : q < (usedCode f.code).length := (List.getElem?_eq_some_iff.1 hi).1
  have hk := used_all hr hq
  rw [keptAt_at (l := usedCode f.code) hi] at hk
  unfold keeps at hk
  rw [hm] at hk
  have h1 : liveOut (usedCode f.code) q i i.d = true := by simpa using hk
  rw [out_makes hm] at h1
  unfold readIn
  refine read_live (used_right hr) _ (q + 1) _ (by show (usedCode f.code).length = (usedCode f.code).length - (q + 1) + (q + 1); omega) ⟨q + 1, Nat.le_refl _, onPut_self _ _, h1⟩
/-! ### What is seen -/
theorem const_shows {f : Flat} {t : List Int} (ht : wrong t = 0) (d n : Int) : shows f t ⟨14, d, 0, 0, 0, n⟩ = false := by
  unfold shows
  dsimp only
  have hm : most 14 = 0 := rfl
  rw [bits_of_most ht (by decide) 0 (by decide) (by rw [hm]; decide), bits_of_most ht (by decide) 1 (by decide) (by rw [hm]; decide), bits_of_most ht (by decide) 2 (by decide) (by rw [hm]; decide)]
  simp
theorem shows_relK (f : Flat) (t : List Int) (l : List Instr) (i : Instr) : shows f t (relK l i) = shows f t i := by
  obtain ⟨e1, e2, e3, e4, e5⟩ := relK_op l i
  unfold shows
  rw [e1, e2, e3, e4, e5]
theorem numbers_shows {f : Flat} {t : List Int} (ht : wrong t = 0) (h : ∀ i ∈ f.code, shows f t i = false) : ∀ i ∈ (numbersF f).code, shows (numbersF f) t i = false := by
  intro i hi
  obtain ⟨k, hk, rfl⟩ := List.getElem_of_mem hi
  have hlt : k < f.code.length := by rw [show (numbersF f).code.length = f.code.length from nums_len _] at hk; exact hk
  have hat := nums_at hlt
  have he : (numbersF f).code[k] = numAt f.code k := by
    have : (nums f.code)[k]? = some (numbersF f).code[k] := List.getElem?_eq_getElem hk
    rw [hat] at this
    injection this with this
    exact this.symm
  rw [he]
  have hx : f.code[k]? = some f.code[k] := List.getElem?_eq_getElem hlt
  rcases num_cases hx with ⟨_, e, _⟩ | ⟨_, _, e, _⟩ | ⟨_, n, _, e, _⟩
  · rw [e]; exact h _ (List.getElem_mem hlt)
  · rw [e]; exact h _ (List.getElem_mem hlt)
  · rw [e]; exact const_shows ht _ _
theorem used_shows {f : Flat} {t : List Int} (h : ∀ i ∈ f.code, shows f t i = false) : ∀ i ∈ (usedF f).code, shows (usedF f) t i = false := by
  intro x hx
  obtain ⟨q, hq, rfl⟩ := List.getElem_of_mem hx
  obtain ⟨k, i, hi, _, _, e⟩ := used_cov (List.getElem?_eq_getElem hq)
  have : (usedF f).code[q] = relK f.code i := e
  rw [this, shows_relK]
  exact h i (List.mem_of_getElem? hi)
theorem fold_shows {f : Flat} {t : List Int} (ht : wrong t = 0) (h : ∀ i ∈ f.code, shows f t i = false) : ∀ i ∈ (foldF f).code, shows (foldF f) t i = false := used_shows (numbers_shows ht h)
theorem fold_right {f : Flat} (hr : Right f) : Right (foldF f) := used_right (numbers_right hr)
theorem fold_run {f : Flat} {g : Given} (hr : Right f) (hF : Fine f (start f.secret.length g)) (t : List Int) : (run f t g).1 = (run (foldF f) t g).1 := (numbers_run hr hF t).trans (used_run (f := numbersF f) (numbers_right hr) ⟨hF.len, hF.word, hF.alen, hF.aword⟩ t)
theorem fold_short (f : Flat) : (foldF f).code.length ≤ f.code.length := by
  have h := used_short (numbersF f)
  rw [show (numbersF f).code.length = f.code.length from nums_len _] at h
  exact h
theorem fold_twice {f : Flat} (hr : Right f) : (foldF (foldF f)).code.length ≤ (foldF f).code.length ∧ (usedF (foldF f)).code.length = (foldF f).code.length := ⟨fold_short _, used_twice (numbers_right hr)⟩
theorem fold_read {f : Flat} (hr : Right f) {q : Nat} {i : Instr} (hi : (foldF f).code[q]? = some i) (hm : makes i = true) : readIn (foldF f).code (q + 1) i.d = true := used_read (numbers_right hr) hi hm
end Ev
/- Boxes of arguments: their cells, and whole loads out of them (as in FlowTells; the two are never imported together). -/
namespace Go.Proofs.Ytljcgcllhcdleaa
open Go.RowKit
set_option linter.unusedSimpArgs false
set_option linter.unusedVariables false
theorem boxes3 (w : World) (c0 c1 c2 : Array Value) (t0 t1 t2 : TypeId) :
    (∀ (j : Nat) u, c0[j]? = some u → (((w.alloc (.cells c0 t0)).alloc (.cells c1 t1)).alloc (.cells c2 t2)).cell? ⟨w.heap.size, j, none⟩ = some u) ∧
    (∀ (j : Nat) u, c1[j]? = some u → (((w.alloc (.cells c0 t0)).alloc (.cells c1 t1)).alloc (.cells c2 t2)).cell? ⟨w.heap.size + 1, j, none⟩ = some u) ∧
    (∀ (j : Nat) u, c2[j]? = some u → (((w.alloc (.cells c0 t0)).alloc (.cells c1 t1)).alloc (.cells c2 t2)).cell? ⟨w.heap.size + 1 + 1, j, none⟩ = some u) := by
  have new : ∀ (v : World) (c : Array Value) (t : TypeId) (n j : Nat) u, n = v.heap.size → c[j]? = some u → (v.alloc (.cells c t)).cell? ⟨n, j, none⟩ = some u := fun v c t n j u hn hu => by
    subst hn
    rw [World.cell?_alloc_at _ _ _ _ rfl]
    exact hu
  have old : ∀ (v : World) (c : Array Value) (t : TypeId) (n j : Nat) u, n < v.heap.size → v.cell? ⟨n, j, none⟩ = some u → (v.alloc (.cells c t)).cell? ⟨n, j, none⟩ = some u := fun v c t n j u hn hu =>
    (((Below.refl v.heap.size v).alloc (Nat.le_refl _) (.cells c t)).cell (p := ⟨n, j, none⟩) hn).trans hu
  refine ⟨fun j u h => ?_, fun j u h => ?_, fun j u h => ?_⟩
  · exact old _ _ _ _ _ _ (by simp <;> omega) (old _ _ _ _ _ _ (by simp) (new _ _ _ _ _ _ rfl h))
  · exact old _ _ _ _ _ _ (by simp) (new _ _ _ _ _ _ (by simp) h)
  · exact new _ _ _ _ _ _ (by simp) h
theorem load_box {w u : World} {b : Nat} {T : TypeId} {cs : Array Value} {d : TypeDesc} (hu : Try.prog.underlying T = some d) (hd : d.isRow = true) (hs : cs.toList.toArray = cs) (hi : (Try.prog.info? T).map (·.size) = some cs.toList.length)
    (hc : ∀ (j : Nat) v, cs[j]? = some v → w.cell? ⟨b, j, none⟩ = some v) (hb : b < w.heap.size) (hbl : Below w.heap.size w u) : (Go.Instr.loadAt T (.pointer (some ⟨b, 0, none⟩))).run Try.prog u = .ok (.agg cs) u := by
  have h := run_loadAt_mid (P := Try.prog) u b 0 T cs.toList d (fun j v hj => by
    rw [Nat.zero_add]
    exact (hbl.cell (p := ⟨b, j, none⟩) hb).trans (hc j v (by simpa using hj))) hu hd hi
  rw [hs] at h
  exact h
theorem exec_load {ev : Operand → Value} {o : Oper} {w : World} {T : TypeId} {x : Operand} {p v : Value} (ho : o.op = .load T x) (hx : ev x = p) (h : (Go.Instr.loadAt T p).run Try.prog w = .ok v w) :
    (execOp ev o).run Try.prog w = .ok (.value v) w := by
  unfold execOp
  simp only [ho, hx, Sem.run_bind, h, Result.andThen_ok, Sem.run_pure]
theorem wpList_load_box {ops : Array Oper} {rest : List Oper} {op : Oper} {a : Act} {w : World} {Q : Exit → Act → World → Prop} (hgd : op.guard = none) (T : TypeId) (x : Operand) (ho : op.op = .load T x) {p v : Value} (hx : a.eval x = p)
    (hl : (Go.Instr.loadAt T p).run Try.prog w = .ok v w) (h : wpList Try.prog ops Q rest (a.put op.dst v) w) : wpList Try.prog ops Q (op :: rest) a w :=
  wpList_plain hgd fun K hK => by
    unfold Oper.wp
    rw [exec_load ho hx hl]
    exact hK _ _ h
theorem wpList_load_boxg {ops : Array Oper} {rest : List Oper} {op : Oper} {a : Act} {w : World} {Q : Exit → Act → World → Prop} (hw : Region.wanted op (yielded ops a.tmps) = true) (T : TypeId) (x : Operand) (ho : op.op = .load T x) {p v : Value} (hx : a.eval x = p)
    (hl : (Go.Instr.loadAt T p).run Try.prog w = .ok v w) (h : wpList Try.prog ops Q rest (a.put op.dst v) w) : wpList Try.prog ops Q (op :: rest) a w :=
  wpList_step fun K hK => by
    rw [if_pos hw]
    unfold Oper.wp
    rw [exec_load ho hx hl]
    exact hK _ _ h
end Go.Proofs.Ytljcgcllhcdleaa
