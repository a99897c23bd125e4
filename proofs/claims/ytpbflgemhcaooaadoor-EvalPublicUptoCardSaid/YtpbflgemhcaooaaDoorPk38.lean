import Derived.Test.YtpbflgemhcaooaaDoorPk19
/- Chapter 4, plainly: with more secrets it is no less wrong; where all is public nothing is hidden. -/
namespace Ev
mutual
def pubS : St1 → St1
  | .mk k n nm _ a t e => .mk k n nm false a (pubL t) (pubL e)
def pubL : List St1 → List St1
  | [] => []
  | s :: ss => pubS s :: pubL ss
end
def pubP (p : Par) : Par := ⟨p.name, false, p.size⟩
def pubF (f : Fn1) : Fn1 := ⟨f.params.map pubP, f.arrays.map pubP, pubL f.body⟩
/-- a parameter more is secret -/
def secAt (l : List Par) (k : Nat) : List Par := match l[k]? with | none => l | some p => l.set k ⟨p.name, true, p.size⟩
/-- the one is no more secret than the other one; all public, where P -/
structure RelP (P : Bool) (p p' : Par) : Prop where
  name : p.name = p'.name
  size : p.size = p'.size
  sec : p.secret = true → p'.secret = true
  pub : P = true → p.secret = false
structure RelL (P : Bool) (l l' : List Par) : Prop where
  len : l.length = l'.length
  at_ : ∀ (i : Nat) p p', l[i]? = some p → l'[i]? = some p' → RelP P p p'
theorem RelL.name {P : Bool} {l l' : List Par} (h : RelL P l l') (k : Nat) : (l[k]?).map Par.name = (l'[k]?).map Par.name := by
  by_cases hk : k < l.length
  · have hk' : k < l'.length := by rw [← h.len]; exact hk
    rw [List.getElem?_eq_getElem hk, List.getElem?_eq_getElem hk']
    exact congrArg some (h.at_ k _ _ (List.getElem?_eq_getElem hk) (List.getElem?_eq_getElem hk')).name
  · rw [List.getElem?_eq_none (by omega), List.getElem?_eq_none (by have := h.len; omega)]
theorem RelL.to {P : Bool} {l l' : List Par} (h : RelL P l l') (n : List UInt8) : ∀ k, nameTo l n k = nameTo l' n k
  | 0 => rfl
  | k + 1 => by
    unfold nameTo
    rw [h.name k, h.to n k]
theorem RelL.last {P : Bool} {l l' : List Par} (h : RelL P l l') (n : List UInt8) : nameI l n = nameI l' n := by
  unfold nameI
  rw [h.to, h.len]
theorem RelL.find {P : Bool} {l l' : List Par} (h : RelL P l l') (n : List UInt8) : (findP l n = none ∧ findP l' n = none) ∨ ∃ p p', findP l n = some p ∧ findP l' n = some p' ∧ RelP P p p' := by
  by_cases h1 : nameI l n < 0
  · exact .inl ⟨findP_none h1, findP_none (by rw [← h.last]; exact h1)⟩
  · obtain ⟨p, e1, e2⟩ := findP_some (l := l) (n := n) (by omega)
    obtain ⟨p', e3, e4⟩ := findP_some (l := l') (n := n) (by rw [← h.last]; omega)
    rw [← h.last] at e4
    exact .inr ⟨p, p', e1, e3, h.at_ _ _ _ e2 e4⟩
theorem RelL.snoc {P : Bool} {l l' : List Par} (h : RelL P l l') {p p' : Par} (hp : RelP P p p') : RelL P (l ++ [p]) (l' ++ [p']) := by
  refine ⟨by simp [h.len], fun i q q' h1 h2 => ?_⟩
  by_cases hi : i < l.length
  · rw [List.getElem?_append_left hi] at h1
    rw [List.getElem?_append_left (by rw [← h.len]; exact hi)] at h2
    exact h.at_ i q q' h1 h2
  · have hi2 : i = l.length := by
      have := (List.getElem?_eq_some_iff.1 h1).1
      simp at this
      omega
    subst hi2
    rw [List.getElem?_append_right (Nat.le_refl _), Nat.sub_self] at h1
    rw [h.len, List.getElem?_append_right (Nat.le_refl _), Nat.sub_self] at h2
    simp at h1 h2
    subst h1 h2
    exact hp
/-- no more is told, or a secret would be seen -/
def RelR (r r' : Bool × Int) : Prop := r'.2 = 10 ∨ (r.2 = r'.2 ∧ (r.1 = true → r'.1 = true))
theorem RelR.same (r : Bool × Int) : RelR r r := .inr ⟨rfl, fun h => h⟩
theorem RelR.then_ {r r' x x' : Bool × Int} (h : RelR r r') (k : r.2 = 0 → r'.2 = 0 → RelR x x') : RelR (if r.2 ≠ 0 then (false, r.2) else x) (if r'.2 ≠ 0 then (false, r'.2) else x') := by
  rcases h with h1 | ⟨h1, h2⟩
  · rw [if_pos (by omega : r'.2 ≠ 0)]
    exact .inl h1
  · by_cases h0 : r'.2 = 0
    · rw [if_neg (not_not_intro (h1.trans h0)), if_neg (not_not_intro h0)]
      exact k (h1.trans h0) h0
    · rw [if_pos h0, if_pos (by rw [h1]; exact h0), h1]
      exact .inr ⟨rfl, fun h => h⟩
theorem plC_rel {P : Bool} {A A' : List Par} (hA : RelL P A A') (nm : List UInt8) (a : Ex) {s s' d d' : Bool} (hs : s = true → s' = true) (hd : d = true → d' = true) : RelR (plC A nm a s d) (plC A' nm a s' d') := by
  unfold plC
  rcases hA.find nm with ⟨h1, h2⟩ | ⟨p, p', h1, h2, hp⟩
  · rw [h1, h2]; exact RelR.same _
  · rw [h1, h2]
    dsimp only
    by_cases e1 : s' = true
    · rw [if_pos e1]; exact .inl rfl
    · rw [if_neg e1, if_neg (fun e => e1 (hs e))]
      by_cases e2 : d' = true ∧ (a.kind ≠ 1 ∨ p'.size ≤ a.n)
      · rw [if_pos e2]; exact .inl rfl
      · rw [if_neg e2, if_neg (fun e => e2 ⟨hd e.1, by rw [← hp.size]; exact e.2⟩)]
        exact .inr ⟨rfl, hp.sec⟩
mutual
theorem exC_rel {P : Bool} {A A' l l' : List Par} (hA : RelL P A A') (hl : RelL P l l') {d d' : Bool} (hd : d = true → d' = true) : ∀ e, RelR (exC A l d e) (exC A' l' d' e)
  | .mk k n nm as => by
    rw [exC, exC]
    have h := exsC_rel hA hl hd as false false (fun e => e)
    refine h.then_ (fun h0 h0' => ?_)
    by_cases k2 : k = 2
    · rw [if_pos k2, if_pos k2]
      rcases hl.find nm with ⟨h1, h2⟩ | ⟨p, p', h1, h2, hp⟩
      · rw [h1, h2]; exact RelR.same _
      · rw [h1, h2]; exact .inr ⟨rfl, hp.sec⟩
    · rw [if_neg k2, if_neg k2]
      have hb : (exsC A l d as false).1 = true → (exsC A' l' d' as false).1 = true := by
        rcases h with h1 | h1
        · omega
        · exact h1.2
      by_cases k5 : k = 5
      · rw [if_pos k5, if_pos k5]
        exact plC_rel hA nm _ hb hd
      · rw [if_neg k5, if_neg k5]
        exact .inr ⟨rfl, hb⟩
theorem exsC_rel {P : Bool} {A A' l l' : List Par} (hA : RelL P A A') (hl : RelL P l l') {d d' : Bool} (hd : d = true → d' = true) : ∀ (es : List Ex) (b b' : Bool), (b = true → b' = true) → RelR (exsC A l d es b) (exsC A' l' d' es b')
  | [], b, b', hb => by rw [exsC, exsC]; exact .inr ⟨rfl, hb⟩
  | e :: es, b, b', hb => by
    rw [exsC, exsC]
    have h := exC_rel hA hl hd e
    refine h.then_ (fun h0 h0' => exsC_rel hA hl hd es _ _ (fun e => ?_))
    rcases Bool.or_eq_true_iff.1 e with e | e
    · rw [hb e]; rfl
    · rcases h with h1 | h1
      · omega
      · rw [h1.2 e, Bool.or_true]
end
def AllPub (l : List Par) : Prop := ∀ p ∈ l, p.secret = false
theorem AllPub.find {l : List Par} (h : AllPub l) {n : List UInt8} {p : Par} (e : findP l n = some p) : p.secret = false := by
  unfold findP at e
  split at e
  · cases e
  · exact h p (List.mem_of_getElem? e)
theorem plC_pub {A : List Par} (hA : AllPub A) (nm : List UInt8) (a : Ex) : (plC A nm a false false).1 = false ∧ (plC A nm a false false).2 ≠ 10 := by
  unfold plC
  cases h : findP A nm with
  | none => exact ⟨rfl, by show (6 : Int) ≠ 10; decide⟩
  | some p =>
    dsimp only
    rw [if_neg (by decide), if_neg (fun e => by cases e.1)]
    exact ⟨hA.find h, by show (0 : Int) ≠ 10; decide⟩
mutual
theorem exC_pub {A l : List Par} (hA : AllPub A) (hl : AllPub l) : ∀ e, (exC A l false e).1 = false ∧ (exC A l false e).2 ≠ 10
  | .mk k n nm as => by
    rw [exC]
    have h := exsC_pub hA hl as
    by_cases h0 : (exsC A l false as false).2 = 0
    · rw [if_neg (not_not_intro h0)]
      by_cases k2 : k = 2
      · rw [if_pos k2]
        cases e : findP l nm with
        | none => exact ⟨rfl, by show (6 : Int) ≠ 10; decide⟩
        | some p => exact ⟨hl.find e, by show (0 : Int) ≠ 10; decide⟩
      · rw [if_neg k2]
        by_cases k5 : k = 5
        · rw [if_pos k5, h.1]
          exact plC_pub hA nm _
        · rw [if_neg k5]
          exact ⟨h.1, by show (0 : Int) ≠ 10; decide⟩
    · rw [if_pos h0]
      exact ⟨rfl, h.2⟩
theorem exsC_pub {A l : List Par} (hA : AllPub A) (hl : AllPub l) : ∀ es, (exsC A l false es false).1 = false ∧ (exsC A l false es false).2 ≠ 10
  | [] => by rw [exsC]; exact ⟨rfl, by show (0 : Int) ≠ 10; decide⟩
  | e :: es => by
    rw [exsC]
    have h := exC_pub hA hl e
    by_cases h0 : (exC A l false e).2 = 0
    · rw [if_neg (not_not_intro h0), h.1]
      exact exsC_pub hA hl es
    · rw [if_pos h0]
      exact ⟨rfl, h.2⟩
end
theorem argsC_pub {A l : List Par} (hA : AllPub A) (hl : AllPub l) : ∀ es, (∀ j, (argsC A l false es).1.getD j false = false) ∧ (argsC A l false es).2 ≠ 10
  | [] => ⟨fun j => rfl, by show (0 : Int) ≠ 10; decide⟩
  | e :: es => by
    unfold argsC
    have h := exC_pub hA hl e
    have k := argsC_pub hA hl es
    by_cases h0 : (exC A l false e).2 = 0
    · rw [if_neg (not_not_intro h0)]
      refine ⟨fun j => ?_, k.2⟩
      cases j with
      | zero => exact h.1
      | succ j => exact k.1 j
    · rw [if_pos h0]
      exact ⟨fun j => rfl, h.2⟩
theorem argsC_rel {P : Bool} {A A' l l' : List Par} (hA : RelL P A A') (hl : RelL P l l') {d d' : Bool} (hd : d = true → d' = true) : ∀ es, (argsC A' l' d' es).2 = 0 → (argsC A l d es).2 = 0
  | [], _ => rfl
  | e :: es, h => by
    unfold argsC at h ⊢
    have h1 := exC_rel hA hl hd e
    by_cases h0 : (exC A' l' d' e).2 = 0
    · rw [if_neg (not_not_intro h0)] at h
      have h2 : (exC A l d e).2 = 0 := by
        rcases h1 with h1 | h1
        · omega
        · exact h1.1.trans h0
      rw [if_neg (not_not_intro h2)]
      exact argsC_rel hA hl hd es h
    · rw [if_pos h0] at h; exact absurd h h0
theorem AllPub.snoc {l : List Par} (h : AllPub l) {p : Par} (hp : p.secret = false) : AllPub (l ++ [p]) := fun q hq => by
  rcases List.mem_append.1 hq with hq | hq
  · exact h q hq
  · rw [List.mem_singleton] at hq
    rw [hq]; exact hp
theorem bits_off {S : List Bool} (h : ∀ j, S.getD j false = false) : S.headD false = false := by
  cases S with
  | nil => rfl
  | cons b S => exact h 0
theorem pub_kind (t : St1) : (pubS t).kind = t.kind ∧ (pubS t).n = t.n ∧ (pubS t).name = t.name ∧ (pubS t).secret = false ∧ (pubS t).args = t.args ∧ (pubS t).thn = pubL t.thn ∧ (pubS t).els = pubL t.els := by
  cases t
  rw [pubS]
  exact ⟨rfl, rfl, rfl, rfl, rfl, rfl, rfl⟩
/-- where all is public nothing is hidden: one statement that leads nowhere else -/
theorem oneC_never {A l : List Par} (hA : AllPub A) (hl : AllPub l) (k : LK) (kind : Int) (nm : List UInt8) (a : Ex) : (oneC A l false k kind nm false a false false).1.2 ≠ 10 ∧ AllPub (oneC A l false k kind nm false a false false).1.1 := by
  have hn : AllPub ([] : List Par) := fun p hp => by cases hp
  unfold oneC
  by_cases k1 : kind = 1
  · rw [if_pos k1]
    split
    · exact ⟨by show (7 : Int) ≠ 10; decide, hn⟩
    · rw [if_neg (by simp)]
      split
      · exact ⟨by show (4 : Int) ≠ 10; decide, hn⟩
      · exact ⟨by show (0 : Int) ≠ 10; decide, hl.snoc rfl⟩
  · rw [if_neg k1]
    by_cases k2 : kind = 2
    · rw [if_pos k2]
      cases e : findP l nm with
      | none => exact ⟨by show (6 : Int) ≠ 10; decide, hn⟩
      | some v =>
        dsimp only
        split
        · exact ⟨by show (6 : Int) ≠ 10; decide, hn⟩
        · rw [if_neg (by simp)]
          exact ⟨by show (0 : Int) ≠ 10; decide, hl⟩
    · rw [if_neg k2]
      by_cases k3 : kind = 3
      · rw [if_pos k3]
        have h := plC_pub hA nm a
        split
        · exact ⟨h.2, hn⟩
        · rw [if_neg (by simp)]
          exact ⟨by show (0 : Int) ≠ 10; decide, hl⟩
      · rw [if_neg k3, if_neg (by simp)]
        exact ⟨by show (0 : Int) ≠ 10; decide, hl⟩
theorem timesC_never {f : LK → Int × LK} (h : ∀ k, (f k).1 ≠ 10) : ∀ n k, (timesC f n k).1 ≠ 10
  | 0, k => by show (0 : Int) ≠ 10; decide
  | n + 1, k => by
    unfold timesC
    split
    · exact h k
    · exact timesC_never h n _
mutual
theorem st_never {A l : List Par} (hA : AllPub A) (hl : AllPub l) (k : LK) : ∀ t, (stC A l false k (pubS t)).1.2 ≠ 10 ∧ AllPub (stC A l false k (pubS t)).1.1
  | .mk kind n nm sec args thn els => by
    have hn : AllPub ([] : List Par) := fun p hp => by cases hp
    have ha := argsC_pub hA hl args
    rw [pubS, stC]
    split
    · exact ⟨by show (4 : Int) ≠ 10; decide, hn⟩
    · split
      · exact ⟨ha.2, hn⟩
      · rw [bits_off ha.1, ha.1 0, ha.1 1, Bool.or_false]
        split
        · have b1 := bl_never hA thn l hl ⟨k.work + 1, k.lets⟩
          have b2 := bl_never hA els l hl (blC A l false ⟨k.work + 1, k.lets⟩ (pubL thn)).2
          split
          · exact ⟨b1, hn⟩
          · split
            · exact ⟨b2, hn⟩
            · exact ⟨by show (0 : Int) ≠ 10; decide, hl⟩
        · split
          · split
            · exact ⟨by show (7 : Int) ≠ 10; decide, hn⟩
            · have b1 := timesC_never (f := fun k => blC A (l ++ [⟨nm, false, -1⟩]) false k (pubL thn)) (fun k => bl_never hA thn _ (hl.snoc rfl) k) n.toNat ⟨k.work + 1, k.lets⟩
              split
              · exact ⟨b1, hn⟩
              · exact ⟨by show (0 : Int) ≠ 10; decide, hl⟩
          · exact oneC_never hA hl _ kind nm _
theorem bl_never {A : List Par} (hA : AllPub A) : ∀ (ts : List St1) (l : List Par), AllPub l → ∀ k, (blC A l false k (pubL ts)).1 ≠ 10
  | [], l, hl, k => by rw [pubL, blC]; show (0 : Int) ≠ 10; decide
  | t :: ts, l, hl, k => by
    have h1 := st_never hA hl k t
    rw [pubL, blC]
    split
    · exact h1.1
    · exact bl_never hA ts _ h1.2 _
end
/-- what is right is right, too, where all is public -/
theorem oneC_ok {A A' l l' : List Par} (hA : RelL true A A') (hl : RelL true l l') {d' : Bool} (k : LK) (kind : Int) (nm : List UInt8) (sec : Bool) (a : Ex) {s0' s1' : Bool} (h : (oneC A' l' d' k kind nm sec a s0' s1').1.2 = 0) : (oneC A l false k kind nm false a false false).1.2 = 0 ∧ (oneC A l false k kind nm false a false false).2 = (oneC A' l' d' k kind nm sec a s0' s1').2 ∧ RelL true (oneC A l false k kind nm false a false false).1.1 (oneC A' l' d' k kind nm sec a s0' s1').1.1 := by
  unfold oneC at h ⊢
  by_cases k1 : kind = 1
  · rw [if_pos k1] at h ⊢
    rw [if_pos k1, hl.last, hA.last]
    by_cases e1 : 0 ≤ nameI l' nm ∨ 0 ≤ nameI A' nm
    · rw [if_pos e1] at h; cases h
    · rw [if_neg e1] at h ⊢
      rw [if_neg e1, if_neg (by simp : ¬ (false = false ∧ (false = true ∨ false = true)))]
      by_cases e2 : sec = false ∧ (s0' = true ∨ d' = true)
      · rw [if_pos e2] at h; cases h
      · rw [if_neg e2] at h ⊢
        by_cases e3 : 24 < k.lets + 1
        · rw [if_pos e3] at h; cases h
        · rw [if_neg e3, if_neg e3]
          exact ⟨rfl, rfl, hl.snoc ⟨rfl, rfl, fun h => (by cases h), fun _ => rfl⟩⟩
  · rw [if_neg k1] at h ⊢
    rw [if_neg k1]
    by_cases k2 : kind = 2
    · rw [if_pos k2] at h ⊢
      rw [if_pos k2]
      rcases hl.find nm with ⟨e1, e2⟩ | ⟨p, p', e1, e2, hp⟩
      · rw [e2] at h; cases h
      · rw [e2] at h ⊢
        rw [e1]
        dsimp only at h ⊢
        rw [hp.size]
        by_cases e3 : p'.size < 0
        · rw [if_pos e3] at h; cases h
        · rw [if_neg e3] at h ⊢
          rw [if_neg e3, if_neg (by simp)]
          by_cases e4 : p'.secret = false ∧ (s0' = true ∨ d' = true)
          · rw [if_pos e4] at h; cases h
          · rw [if_neg e4]; exact ⟨rfl, rfl, hl⟩
    · rw [if_neg k2] at h ⊢
      rw [if_neg k2]
      by_cases k3 : kind = 3
      · rw [if_pos k3] at h ⊢
        rw [if_pos k3]
        have hp := plC_rel hA nm a (s := false) (s' := s0') (d := false) (d' := d') (fun h => by cases h) (fun h => by cases h)
        by_cases e1 : (plC A' nm a s0' d').2 = 0
        · rw [if_neg (not_not_intro e1)] at h ⊢
          have e2 : (plC A nm a false false).2 = 0 := by
            rcases hp with hp | hp
            · omega
            · exact hp.1.trans e1
          rw [if_neg (not_not_intro e2), if_neg (by simp)]
          by_cases e3 : (plC A' nm a s0' d').1 = false ∧ (s1' = true ∨ d' = true)
          · rw [if_pos e3] at h; cases h
          · rw [if_neg e3]; exact ⟨rfl, rfl, hl⟩
        · rw [if_pos e1] at h; exact absurd h e1
      · rw [if_neg k3] at h ⊢
        rw [if_neg k3, if_neg (by simp)]
        by_cases e1 : d' = true
        · rw [if_pos e1] at h; cases h
        · rw [if_neg e1]; exact ⟨rfl, rfl, hl⟩
theorem timesC_ok {f f' : LK → Int × LK} (h : ∀ k, (f' k).1 = 0 → (f k).1 = 0 ∧ (f k).2 = (f' k).2) : ∀ n k, (timesC f' n k).1 = 0 → (timesC f n k).1 = 0 ∧ (timesC f n k).2 = (timesC f' n k).2
  | 0, k, _ => ⟨rfl, rfl⟩
  | n + 1, k, e => by
    unfold timesC at e ⊢
    by_cases h0 : (f' k).1 = 0
    · obtain ⟨e1, e2⟩ := h k h0
      rw [if_neg (not_not_intro h0)] at e ⊢
      rw [if_neg (not_not_intro e1), e2]
      exact timesC_ok h n _ e
    · rw [if_pos h0] at e; exact absurd e h0
theorem RelL.pub {P : Bool} {l l' : List Par} (h : RelL P l l') (hP : P = true) : AllPub l := fun p hp => by
  obtain ⟨i, hi⟩ := List.getElem?_of_mem hp
  have hlt := (List.getElem?_eq_some_iff.1 hi).1
  exact (h.at_ i p _ hi (List.getElem?_eq_getElem (by rw [← h.len]; exact hlt))).pub hP
mutual
theorem st_ok {A A' l l' : List Par} (hA : RelL true A A') (hl : RelL true l l') (d' : Bool) (k : LK) : ∀ t, (stC A' l' d' k t).1.2 = 0 → (stC A l false k (pubS t)).1.2 = 0 ∧ (stC A l false k (pubS t)).2 = (stC A' l' d' k t).2 ∧ RelL true (stC A l false k (pubS t)).1.1 (stC A' l' d' k t).1.1
  | .mk kind n nm sec args thn els => by
    intro h
    have ha := argsC_pub (hA.pub rfl) (hl.pub rfl) args
    rw [stC] at h ⊢
    rw [pubS, stC]
    by_cases e1 : 300 < k.work + 1
    · rw [if_pos e1] at h; cases h
    · rw [if_neg e1] at h ⊢
      rw [if_neg e1]
      by_cases e2 : (argsC A' l' d' args).2 = 0
      · rw [if_neg (not_not_intro e2)] at h ⊢
        rw [if_neg (not_not_intro (argsC_rel hA hl (fun h => by cases h) args e2)), bits_off ha.1, ha.1 0, ha.1 1, Bool.or_false]
        by_cases k4 : kind = 4
        · rw [if_pos k4] at h ⊢
          rw [if_pos k4]
          generalize (d' || (argsC A' l' d' args).1.headD false) = d2 at h ⊢
          by_cases e3 : (blC A' l' d2 ⟨k.work + 1, k.lets⟩ thn).1 = 0
          · rw [if_neg (not_not_intro e3)] at h ⊢
            obtain ⟨a1, a2⟩ := bl_ok hA d2 thn l l' hl ⟨k.work + 1, k.lets⟩ e3
            rw [if_neg (not_not_intro a1), a2]
            by_cases e4 : (blC A' l' d2 (blC A' l' d2 ⟨k.work + 1, k.lets⟩ thn).2 els).1 = 0
            · rw [if_neg (not_not_intro e4)]
              obtain ⟨b1, b2⟩ := bl_ok hA d2 els l l' hl _ e4
              rw [if_neg (not_not_intro b1), b2]
              exact ⟨rfl, rfl, hl⟩
            · rw [if_pos e4] at h; exact absurd h e4
          · rw [if_pos e3] at h; exact absurd h e3
        · rw [if_neg k4] at h ⊢
          rw [if_neg k4]
          by_cases k5 : kind = 5
          · rw [if_pos k5] at h ⊢
            rw [if_pos k5, hl.last, hA.last]
            by_cases e3 : 0 ≤ nameI l' nm ∨ 0 ≤ nameI A' nm
            · rw [if_pos e3] at h; cases h
            · rw [if_neg e3] at h ⊢
              rw [if_neg e3]
              by_cases e4 : (timesC (fun k => blC A' (l' ++ [⟨nm, false, -1⟩]) d' k thn) n.toNat ⟨k.work + 1, k.lets⟩).1 = 0
              · rw [if_neg (not_not_intro e4)]
                obtain ⟨a1, a2⟩ := timesC_ok (f := fun k => blC A (l ++ [⟨nm, false, -1⟩]) false k (pubL thn)) (f' := fun k => blC A' (l' ++ [⟨nm, false, -1⟩]) d' k thn) (fun k e => bl_ok hA d' thn _ _ (hl.snoc ⟨rfl, rfl, fun h => h, fun _ => rfl⟩) k e) n.toNat ⟨k.work + 1, k.lets⟩ e4
                rw [if_neg (not_not_intro a1), a2]
                exact ⟨rfl, rfl, hl⟩
              · rw [if_pos e4] at h; exact absurd h e4
          · rw [if_neg k5] at h ⊢
            rw [if_neg k5]
            exact oneC_ok hA hl _ kind nm sec _ h
      · rw [if_pos e2] at h; exact absurd h e2
theorem bl_ok {A A' : List Par} (hA : RelL true A A') (d' : Bool) : ∀ (ts : List St1) (l l' : List Par), RelL true l l' → ∀ k, (blC A' l' d' k ts).1 = 0 → (blC A l false k (pubL ts)).1 = 0 ∧ (blC A l false k (pubL ts)).2 = (blC A' l' d' k ts).2
  | [], l, l', hl, k, _ => by rw [pubL, blC, blC]; exact ⟨rfl, rfl⟩
  | t :: ts, l, l', hl, k, h => by
    rw [blC] at h ⊢
    rw [pubL, blC]
    by_cases e : (stC A' l' d' k t).1.2 = 0
    · rw [if_neg (not_not_intro e)] at h ⊢
      obtain ⟨a1, a2, a3⟩ := st_ok hA hl d' k t e
      rw [if_neg (not_not_intro a1), a2]
      exact bl_ok hA d' ts _ _ a3 _ h
    · rw [if_pos e] at h; exact absurd h e
end
theorem rel_map (l : List Par) : RelL true (l.map pubP) l := by
  refine ⟨by simp, fun i p p' h1 h2 => ?_⟩
  rw [List.getElem?_map, h2] at h1
  injection h1 with h1
  subst h1
  exact ⟨rfl, rfl, fun h => (by cases h), fun _ => rfl⟩
theorem twice_map {l l' : List Par} (h : RelL true l l') : ∀ k, twiceTo l k = twiceTo l' k
  | 0 => rfl
  | k + 1 => by
    unfold twiceTo
    rw [twice_map h k]
    congr 1
    by_cases hk : k < l.length
    · have hk' : k < l'.length := by rw [← h.len]; exact hk
      have hp := h.at_ k _ _ (List.getElem?_eq_getElem hk) (List.getElem?_eq_getElem hk')
      rw [List.getElem?_eq_getElem hk, List.getElem?_eq_getElem hk']
      dsimp only
      rw [h.to, hp.name]
    · rw [List.getElem?_eq_none (by omega), List.getElem?_eq_none (by have := h.len; omega)]
/-- the law, plainly -/
theorem public_law (f : Fn1) : checkC (pubF f) ≠ 10 ∧ (checkC f = 0 → checkC (pubF f) = 0) := by
  have e1 : (pubF f).params.length = f.params.length := by simp [pubF]
  have e2 : (pubF f).arrays.length = f.arrays.length := by simp [pubF]
  have e3 : (pubF f).params ++ (pubF f).arrays = (f.params ++ f.arrays).map pubP := by simp [pubF]
  have e4 := twice_map (rel_map (f.params ++ f.arrays)) (f.params ++ f.arrays).length
  have pp : ∀ l : List Par, AllPub (l.map pubP) := fun l => (rel_map l).pub rfl
  unfold checkC
  rw [e1, e2, e3, List.length_map, e4]
  constructor
  · split
    · decide
    · split
      · decide
      · exact bl_never (pp f.arrays) f.body _ (pp f.params) _
  · intro h
    by_cases h1 : 4 < f.params.length ∨ 3 < f.arrays.length
    · rw [if_pos h1] at h; cases h
    · rw [if_neg h1] at h ⊢
      by_cases h2 : twiceTo (f.params ++ f.arrays) (f.params ++ f.arrays).length = true
      · rw [if_pos h2] at h; cases h
      · rw [if_neg h2] at h ⊢
        exact (bl_ok (rel_map f.arrays) false f.body _ _ (rel_map f.params) _ h).1
end Ev
