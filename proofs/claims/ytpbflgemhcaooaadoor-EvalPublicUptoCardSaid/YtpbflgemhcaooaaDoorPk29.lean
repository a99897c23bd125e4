import Derived.Test.YtpbflgemhcaooaaDoorPk25
/- Chapter 5, plainly: what is public does not hang on what is secret. -/
namespace Ev
set_option linter.unusedVariables false
set_option linter.unusedSimpArgs false
/-- names, the newest first, of two runs -/
def RelN : List Par → Nms → Nms → Prop
  | [], l, l' => l = [] ∧ l' = []
  | p :: R, l, l' => ∃ v v' r r', l = (p.name, v) :: r ∧ l' = (p.name, v') :: r' ∧ (p.secret = false → v = v') ∧ RelN R r r'
def PubA (A : List Par) (a a' : Ars) : Prop := ∀ i p, A[i]? = some p → p.secret = false → a.getD i [] = a'.getD i []
def SzA (A : List Par) (a : Ars) : Prop := a.map (fun x => (x.length : Int)) = A.map Par.size
def UniqA (A : List Par) : Prop := ∀ n v, findP A n = some v → A[arrI A n]? = some v
theorem PubA.rfl' {A : List Par} {a : Ars} : PubA A a a := fun _ _ _ _ => rfl
theorem PubA.symm {A : List Par} {a a' : Ars} (h : PubA A a a') : PubA A a' a := fun i p h1 h2 => (h i p h1 h2).symm
theorem PubA.trans {A : List Par} {a b c : Ars} (h : PubA A a b) (k : PubA A b c) : PubA A a c := fun i p h1 h2 => (h i p h1 h2).trans (k i p h1 h2)
theorem RelN.symm : ∀ {R : List Par} {l l' : Nms}, RelN R l l' → RelN R l' l
  | [], _, _, ⟨h, k⟩ => ⟨k, h⟩
  | p :: R, _, _, ⟨v, v', r, r', h1, h2, h3, h4⟩ => ⟨v', v, r', r, h2, h1, fun e => (h3 e).symm, h4.symm⟩
theorem RelN.trans : ∀ {R : List Par} {l m n : Nms}, RelN R l m → RelN R m n → RelN R l n
  | [], _, _, _, ⟨h, _⟩, ⟨_, k⟩ => ⟨h, k⟩
  | p :: R, _, _, _, ⟨v, v', r, r', h1, h2, h3, h4⟩, ⟨u, u', s, s', k1, k2, k3, k4⟩ => by
    rw [h2] at k1
    injection k1 with e1 e2
    injection e1 with _ e1
    subst e1 e2
    exact ⟨v, u', r, s', h1, k2, fun e => (h3 e).trans (k3 e), h4.trans k4⟩
theorem RelN.refl : ∀ {R : List Par} {l : Nms}, l.map Prod.fst = R.map Par.name → RelN R l l
  | [], l, h => by
    have h : l = [] := by simpa using h
    exact ⟨h, h⟩
  | p :: R, [], h => by cases h
  | p :: R, (n, v) :: r, h => by
    simp only [List.map_cons] at h
    injection h with h1 h2
    subst h1
    exact ⟨v, v, r, r, rfl, rfl, fun _ => rfl, RelN.refl h2⟩
theorem NmOk.rel {L : List Par} {l : Nms} (h : NmOk L l) : RelN L.reverse l l := RelN.refl (by unfold NmOk at h; rw [h, List.map_reverse])
theorem RelN.len : ∀ {R : List Par} {l l' : Nms}, RelN R l l' → l.length = R.length ∧ l'.length = R.length
  | [], _, _, ⟨h, k⟩ => by rw [h, k]; exact ⟨rfl, rfl⟩
  | p :: R, _, _, ⟨v, v', r, r', h1, h2, h3, h4⟩ => by
    rw [h1, h2]
    simp [h4.len.1, h4.len.2]
theorem RelN.ok : ∀ {R : List Par} {l l' : Nms}, RelN R l l' → l.map Prod.fst = R.map Par.name ∧ l'.map Prod.fst = R.map Par.name
  | [], _, _, ⟨h, k⟩ => by rw [h, k]; exact ⟨rfl, rfl⟩
  | p :: R, _, _, ⟨v, v', r, r', h1, h2, h3, h4⟩ => by
    rw [h1, h2]
    simp [h4.ok.1, h4.ok.2]
theorem RelN.nm {L : List Par} {l l' : Nms} (h : RelN L.reverse l l') : NmOk L l ∧ NmOk L l' := by
  have := h.ok
  rw [List.map_reverse] at this
  exact this
theorem RelN.get : ∀ {R : List Par} {l l' : Nms} {n : List UInt8} {v : Par}, RelN R l l' → findP R.reverse n = some v → v.secret = false → getN l n = getN l' n
  | [], _, _, _, _, _, h, _ => by rw [List.reverse_nil, findP_nil] at h; cases h
  | p :: R, _, _, n, v, ⟨x, x', r, r', h1, h2, h3, h4⟩, h, hs => by
    rw [List.reverse_cons, findP_snoc] at h
    rw [h1, h2]
    unfold getN
    by_cases e : p.name = n
    · rw [if_pos e] at h
      injection h with h
      subst h
      rw [if_pos e, if_pos e]
      exact h3 hs
    · rw [if_neg e] at h
      rw [if_neg e, if_neg e]
      exact h4.get h hs
theorem RelN.set2 : ∀ {R : List Par} {l l' : Nms} {n : List UInt8} {x y : Int}, RelN R l l' → (∀ v, findP R.reverse n = some v → v.secret = false → x = y) → RelN R (setN l n x) (setN l' n y)
  | [], _, _, _, _, _, ⟨h, k⟩, _ => by rw [h, k]; exact ⟨rfl, rfl⟩
  | p :: R, _, _, n, x, y, ⟨v, v', r, r', h1, h2, h3, h4⟩, hf => by
    rw [h1, h2]
    unfold setN
    by_cases e : p.name = n
    · rw [if_pos e, if_pos e]
      exact ⟨x, y, r, r', rfl, rfl, fun hs => hf p (by rw [List.reverse_cons, findP_snoc, if_pos e]) hs, h4⟩
    · rw [if_neg e, if_neg e]
      exact ⟨v, v', _, _, rfl, rfl, h3, h4.set2 (fun u hu hs => hf u (by rw [List.reverse_cons, findP_snoc, if_neg e]; exact hu) hs)⟩
theorem RelN.set1 : ∀ {R : List Par} {l l' : Nms} {n : List UInt8} {y : Int}, RelN R l l' → (∀ v, findP R.reverse n = some v → v.secret = true) → RelN R l (setN l' n y)
  | [], _, _, _, _, ⟨h, k⟩, _ => by rw [h, k]; exact ⟨rfl, rfl⟩
  | p :: R, _, _, n, y, ⟨v, v', r, r', h1, h2, h3, h4⟩, hf => by
    rw [h1, h2]
    unfold setN
    by_cases e : p.name = n
    · rw [if_pos e]
      exact ⟨v, y, r, r', rfl, rfl, fun hs => (by rw [hf p (by rw [List.reverse_cons, findP_snoc, if_pos e])] at hs; cases hs), h4⟩
    · rw [if_neg e]
      exact ⟨v, v', _, _, rfl, rfl, h3, h4.set1 (fun u hu => hf u (by rw [List.reverse_cons, findP_snoc, if_neg e]; exact hu))⟩
theorem RelN.next {L : List Par} {l l' : Nms} {p : Par} {x y : Int} (h : RelN L.reverse l l') (hp : p.secret = false → x = y) : RelN (L ++ [p]).reverse ((p.name, x) :: l) ((p.name, y) :: l') := by
  rw [List.reverse_append]
  exact ⟨x, y, l, l', rfl, rfl, hp, h⟩
theorem RelN.below {L : List Par} {l l' : Nms} {p : Par} (h : RelN (L ++ [p]).reverse l l') : RelN L.reverse (l.drop 1) (l'.drop 1) := by
  rw [List.reverse_append] at h
  obtain ⟨x, y, r, r', h1, h2, _, h4⟩ := h
  rw [h1, h2]
  exact h4
/-! ### arrays -/
theorem SzA.len {A : List Par} {a : Ars} (h : SzA A a) : a.length = A.length := by
  have := congrArg List.length h
  simpa using this
theorem SzA.at_ {A : List Par} {a : Ars} (h : SzA A a) {i : Nat} {p : Par} (hp : A[i]? = some p) : ((a.getD i []).length : Int) = p.size := by
  have h1 : (a.map (fun x => (x.length : Int)))[i]? = (A.map Par.size)[i]? := by rw [show a.map (fun x => (x.length : Int)) = A.map Par.size from h]
  rw [List.getElem?_map, List.getElem?_map, hp] at h1
  rw [List.getD_eq_getElem?_getD]
  cases e : a[i]? with
  | none => rw [e] at h1; cases h1
  | some x => rw [e] at h1; injection h1
theorem SzA.to {A : List Par} {a a' : Ars} (h : SzA A a) (k : a'.map List.length = a.map List.length) : SzA A a' := by
  unfold SzA at h ⊢
  rw [← h]
  have h1 : ∀ x : Ars, x.map (fun y => (y.length : Int)) = (x.map List.length).map (fun n : Nat => (n : Int)) := fun x => by rw [List.map_map]; rfl
  rw [h1, h1, k]
theorem PubA.set2 {A : List Par} {a a' : Ars} (h : PubA A a a') (hz : SzA A a) (hz' : SzA A a') (k : Nat) (x y : List Int) (hk : ∀ p, A[k]? = some p → p.secret = false → x = y) : PubA A (a.set k x) (a'.set k y) := by
  intro i p hp hs
  have hi := (List.getElem?_eq_some_iff.1 hp).1
  have h1 := hz.len
  have h2 := hz'.len
  have h3 := h i p hp hs
  rw [List.getD_eq_getElem?_getD, List.getD_eq_getElem?_getD] at h3 ⊢
  rw [List.getElem?_set, List.getElem?_set]
  by_cases e : k = i
  · subst e
    rw [if_pos rfl, if_pos rfl, if_pos (by omega), if_pos (by omega)]
    exact congrArg (fun o => Option.getD (some o) []) (hk p hp hs)
  · rw [if_neg e, if_neg e]
    exact h3
theorem PubA.set1 {A : List Par} {a a' : Ars} (h : PubA A a a') (k : Nat) (y : List Int) (hk : ∀ p, A[k]? = some p → p.secret = true) : PubA A a (a'.set k y) := by
  intro i p hp hs
  have h3 := h i p hp hs
  rw [List.getD_eq_getElem?_getD, List.getD_eq_getElem?_getD] at h3 ⊢
  rw [List.getElem?_set]
  by_cases e : k = i
  · subst e
    rw [hk p hp] at hs
    cases hs
  · rw [if_neg e]
    exact h3
/-! ### expressions -/
theorem plC_ok {A : List Par} {n : List UInt8} {x : Ex} {s d : Bool} (h : (plC A n x s d).2 = 0) : ∃ v, findP A n = some v ∧ s = false ∧ (d = true → x.kind = 1 ∧ x.n < v.size) ∧ (plC A n x s d).1 = v.secret := by
  unfold plC at h ⊢
  cases e : findP A n with
  | none => rw [e] at h; cases h
  | some v =>
    rw [e] at h
    dsimp only at h ⊢
    by_cases e1 : s = true
    · rw [if_pos e1] at h; cases h
    · rw [if_neg e1] at h ⊢
      by_cases e2 : d = true ∧ (x.kind ≠ 1 ∨ v.size ≤ x.n)
      · rw [if_pos e2] at h; cases h
      · rw [if_neg e2]
        refine ⟨v, rfl, by cases s; rfl; exact absurd rfl e1, fun hd => ?_, rfl⟩
        refine ⟨Decidable.byContradiction fun hk => e2 ⟨hd, .inl hk⟩, ?_⟩
        exact Int.lt_of_not_ge fun hk => e2 ⟨hd, .inr hk⟩
theorem exE_num {A : List Par} {a : Ars} {l : Nms} {e : Ex} (h : WfE e) (k : e.kind = 1) : exE A a l e = some e.n := by
  cases h with
  | num n h1 h2 => rw [exE, exsE_nil]; rfl
  | name s h1 => cases k
  | op n a b h1 h2 h3 h4 => cases k
  | sel a b c h1 h2 h3 => cases k
  | «at» s a h1 h2 => cases k
/-- two words, or two traps -/
def RelX (b : Bool) (x y : Option Int) : Prop := (x = none ∧ y = none) ∨ ∃ u v, x = some u ∧ y = some v ∧ (b = false → u = v)
def RelXs (b : Bool) (x y : Option (List Int)) : Prop := (x = none ∧ y = none) ∨ ∃ u v, x = some u ∧ y = some v ∧ (b = false → u = v)
theorem RelX.same (b : Bool) (x : Option Int) : RelX b x x := by
  cases x with
  | none => exact .inl ⟨rfl, rfl⟩
  | some u => exact .inr ⟨u, u, rfl, rfl, fun _ => rfl⟩
structure NI (A L : List Par) (l l' : Nms) (a a' : Ars) : Prop where
  rl : RelN L.reverse l l'
  z : SzA A a
  z' : SzA A a'
  pa : PubA A a a'
  u : UniqA A
theorem exsC_or {A L : List Par} {dark : Bool} : ∀ {es : List Ex} {b : Bool}, (exsC A L dark es b).2 = 0 → (exsC A L dark es b).1 = false → b = false
  | [], b, _, h => by rw [exsC_nil] at h; exact h
  | e :: es, b, h0, h => by
    rw [exsC_cons] at h0 h
    by_cases e0 : (exC A L dark e).2 = 0
    · rw [if_neg (not_not_intro e0)] at h0 h
      have := exsC_or h0 h
      cases b
      · rfl
      · cases this
    · rw [if_pos e0] at h0
      exact absurd h0 e0
mutual
theorem exE_ni {A L : List Par} {dark : Bool} {l l' : Nms} {a a' : Ars} (hn : NI A L l l' a a') : ∀ (e : Ex), (exC A L dark e).2 = 0 → RelX (exC A L dark e).1 (exE A a l e) (exE A a' l' e)
  | .mk k n nm xs, h => by
    rw [exE, exE]
    rw [exC] at h ⊢
    by_cases h0 : (exsC A L dark xs false).2 = 0
    case neg => rw [if_pos h0] at h; exact absurd h h0
    rw [if_neg (not_not_intro h0)] at h ⊢
    have hs := exsE_ni hn xs false h0
    rcases hs with ⟨e1, e2⟩ | ⟨u, v, e1, e2, e3⟩
    · rw [e1, e2]; exact .inl ⟨rfl, rfl⟩
    rw [e1, e2]
    dsimp only
    by_cases k2 : k = 2
    · rw [if_pos k2] at h ⊢
      rw [if_pos k2, if_pos k2]
      cases e : findP L nm with
      | none => rw [e] at h; cases h
      | some p => exact .inr ⟨_, _, rfl, rfl, fun hp => hn.rl.get (by rw [List.reverse_reverse]; exact e) hp⟩
    rw [if_neg k2] at h ⊢
    rw [if_neg k2, if_neg k2]
    by_cases k5 : k = 5
    · rw [if_pos k5] at h ⊢
      have k3 : ¬ k = 3 := by omega
      have k4 : ¬ k = 4 := by omega
      rw [if_neg k3, if_neg k3, if_neg k4, if_neg k4, if_pos k5, if_pos k5]
      obtain ⟨p, hp, hs, _, hq⟩ := plC_ok h
      rw [hq]
      have huv := e3 hs
      subst huv
      have hA := hn.u nm p hp
      have z1 := hn.z.at_ hA
      have z2 := hn.z'.at_ hA
      rw [z1, z2]
      by_cases hlt : u.getD 0 0 < p.size
      · rw [if_pos hlt, if_pos hlt]
        exact .inr ⟨_, _, rfl, rfl, fun hsec => by rw [hn.pa _ p hA hsec]⟩
      · rw [if_neg hlt, if_neg hlt]
        exact .inl ⟨rfl, rfl⟩
    rw [if_neg k5] at h ⊢
    have key : (exsC A L dark xs false).1 = false → u = v := e3
    by_cases k3 : k = 3
    · rw [if_pos k3, if_pos k3]
      exact .inr ⟨_, _, rfl, rfl, fun e => by rw [key e]⟩
    rw [if_neg k3, if_neg k3]
    by_cases k4 : k = 4
    · rw [if_pos k4, if_pos k4]
      exact .inr ⟨_, _, rfl, rfl, fun e => by rw [key e]⟩
    rw [if_neg k4, if_neg k4, if_neg k5, if_neg k5]
    exact .inr ⟨_, _, rfl, rfl, fun _ => rfl⟩
theorem exsE_ni {A L : List Par} {dark : Bool} {l l' : Nms} {a a' : Ars} (hn : NI A L l l' a a') : ∀ (es : List Ex) (b : Bool), (exsC A L dark es b).2 = 0 → RelXs (exsC A L dark es b).1 (exsE A a l es) (exsE A a' l' es)
  | [], b, h => by
    rw [exsE_nil, exsE_nil]
    exact .inr ⟨[], [], rfl, rfl, fun _ => rfl⟩
  | e :: es, b, h => by
    rw [exsC_cons] at h ⊢
    rw [exsE_cons, exsE_cons]
    by_cases h0 : (exC A L dark e).2 = 0
    case neg => rw [if_pos h0] at h; exact absurd h h0
    rw [if_neg (not_not_intro h0)] at h ⊢
    rcases exE_ni hn e h0 with ⟨e1, e2⟩ | ⟨u, v, e1, e2, e3⟩
    · rw [e1, e2]; exact .inl ⟨rfl, rfl⟩
    rw [e1, e2]
    dsimp only
    rcases exsE_ni hn es _ h with ⟨e4, e5⟩ | ⟨us, vs, e4, e5, e6⟩
    · rw [e4, e5]; exact .inl ⟨rfl, rfl⟩
    rw [e4, e5]
    refine .inr ⟨_, _, rfl, rfl, fun hb => ?_⟩
    have h7 := exsC_or h hb
    rw [e3 (by cases hx : (exC A L dark e).1; rfl; rw [hx] at h7; simp at h7), e6 hb]
end
theorem argsE_ni {A L : List Par} {dark : Bool} {l l' : Nms} {a a' : Ars} (hn : NI A L l l' a a') : ∀ (es : List Ex), (argsC A L dark es).2 = 0 → (exsE A a l es = none ∧ exsE A a' l' es = none) ∨ ∃ u v, exsE A a l es = some u ∧ exsE A a' l' es = some v ∧ ∀ i, (argsC A L dark es).1.getD i false = false → i < es.length → u.getD i 0 = v.getD i 0
  | [], _ => by
    rw [exsE_nil, exsE_nil]
    exact .inr ⟨[], [], rfl, rfl, fun i _ h => absurd h (by simp)⟩
  | e :: es, h => by
    unfold argsC at h ⊢
    by_cases h0 : (exC A L dark e).2 = 0
    case neg => rw [if_pos h0] at h; exact absurd h h0
    rw [if_neg (not_not_intro h0)] at h ⊢
    rw [exsE_cons, exsE_cons]
    rcases exE_ni hn e h0 with ⟨e1, e2⟩ | ⟨u, v, e1, e2, e3⟩
    · rw [e1, e2]; exact .inl ⟨rfl, rfl⟩
    rw [e1, e2]
    dsimp only
    rcases argsE_ni hn es h with ⟨e4, e5⟩ | ⟨us, vs, e4, e5, e6⟩
    · rw [e4, e5]; exact .inl ⟨rfl, rfl⟩
    rw [e4, e5]
    refine .inr ⟨_, _, rfl, rfl, fun i hi hl => ?_⟩
    cases i with
    | zero => exact e3 hi
    | succ i => exact e6 i (by simpa using hi) (by simpa using hl)
/-! ### in the dark nothing traps -/
theorem dark_index {A : List Par} {a : Ars} {l : Nms} {zs : List Ex} {u : List Int} (e1 : exsE A a l zs = some u) (hws : ∀ x ∈ zs, WfE x) (d1 : (zs.headD Ex.none).kind = 1) : u.getD 0 0 = (zs.headD Ex.none).n := by
  cases zs with
  | nil => exact absurd d1 (by decide)
  | cons x xs =>
    rw [exsE_cons, exE_num (hws x (by simp)) d1] at e1
    dsimp only at e1
    cases e4 : exsE A a l xs with
    | none => rw [e4] at e1; cases e1
    | some y => rw [e4] at e1; injection e1 with e1; rw [← e1]; rfl
mutual
theorem exE_dark {A L : List Par} {l : Nms} {a : Ars} (hz : SzA A a) (hu : UniqA A) : ∀ (e : Ex), WfE e → (exC A L true e).2 = 0 → ∃ x, exE A a l e = some x
  | .mk k n nm xs, hw, h => by
    rw [exE]
    rw [exC] at h
    by_cases h0 : (exsC A L true xs false).2 = 0
    case neg => rw [if_pos h0] at h; exact absurd h h0
    rw [if_neg (not_not_intro h0)] at h
    have hws : ∀ x ∈ xs, WfE x := by
      cases hw with
      | num n h1 h2 => intro x hx; cases hx
      | name s h1 => intro x hx; cases hx
      | op n a b h1 h2 h3 h4 => intro x hx; simp at hx; rcases hx with rfl | rfl <;> assumption
      | sel a b c h1 h2 h3 => intro x hx; simp at hx; rcases hx with rfl | rfl | rfl <;> assumption
      | «at» s a h1 h2 => intro x hx; simp at hx; subst hx; assumption
    obtain ⟨u, e1⟩ := exsE_dark (l := l) hz hu xs false hws h0
    rw [e1]
    dsimp only
    by_cases k2 : k = 2
    · rw [if_pos k2]; exact ⟨_, rfl⟩
    rw [if_neg k2] at h ⊢
    by_cases k3 : k = 3
    · rw [if_pos k3]; exact ⟨_, rfl⟩
    rw [if_neg k3]
    by_cases k4 : k = 4
    · rw [if_pos k4]; exact ⟨_, rfl⟩
    rw [if_neg k4]
    by_cases k5 : k = 5
    · rw [if_pos k5] at h ⊢
      obtain ⟨p, hp, hs, hd, hq⟩ := plC_ok h
      obtain ⟨d1, d2⟩ := hd rfl
      rw [hz.at_ (hu nm p hp)]
      have e2 : u.getD 0 0 = (xs.headD Ex.none).n := dark_index e1 hws d1
      rw [e2, if_pos d2]
      exact ⟨_, rfl⟩
    · rw [if_neg k5]; exact ⟨_, rfl⟩
theorem exsE_dark {A L : List Par} {l : Nms} {a : Ars} (hz : SzA A a) (hu : UniqA A) : ∀ (es : List Ex) (b : Bool), (∀ x ∈ es, WfE x) → (exsC A L true es b).2 = 0 → ∃ u, exsE A a l es = some u
  | [], b, _, _ => ⟨[], by rw [exsE_nil]⟩
  | e :: es, b, hw, h => by
    rw [exsC_cons] at h
    by_cases h0 : (exC A L true e).2 = 0
    case neg => rw [if_pos h0] at h; exact absurd h h0
    rw [if_neg (not_not_intro h0)] at h
    obtain ⟨x, e1⟩ := exE_dark (l := l) hz hu e (hw e (by simp)) h0
    obtain ⟨u, e2⟩ := exsE_dark (l := l) hz hu es _ (fun x hx => hw x (by simp [hx])) h
    rw [exsE_cons, e1, e2]
    exact ⟨_, rfl⟩
end
theorem args_dark {A L : List Par} {l : Nms} {a : Ars} (hz : SzA A a) (hu : UniqA A) : ∀ (es : List Ex), (∀ x ∈ es, WfE x) → (argsC A L true es).2 = 0 → ∃ u, exsE A a l es = some u
  | [], _, _ => ⟨[], by rw [exsE_nil]⟩
  | e :: es, hw, h => by
    unfold argsC at h
    by_cases h0 : (exC A L true e).2 = 0
    case neg => rw [if_pos h0] at h; exact absurd h h0
    rw [if_neg (not_not_intro h0)] at h
    obtain ⟨x, e1⟩ := exE_dark (l := l) hz hu e (hw e (by simp)) h0
    obtain ⟨u, e2⟩ := args_dark (l := l) hz hu es (fun x hx => hw x (by simp [hx])) h
    rw [exsE_cons, e1, e2]
    exact ⟨_, rfl⟩
/-! ### statements -/
theorem EO.back_l {o : EO} {l l1 l0 : Nms} (h : o.l = l1 ++ l0) (hl : l0.length = l.length) : (o.back l).l = l0 := by
  show o.l.drop (o.l.length - l.length) = l0
  rw [h, List.length_append, show l1.length + l0.length - l.length = l1.length by omega, List.drop_left]
/-- in the dark: it goes on, and nothing public is changed -/
structure DarkB (A L : List Par) (l : Nms) (a : Ars) (o : EO) : Prop where
  e : o.e = none
  pa : PubA A a o.a
  bot : ∃ l1 l0, o.l = l1 ++ l0 ∧ RelN L.reverse l l0
structure DarkS (A L : List Par) (l : Nms) (a : Ars) (o : EO) : Prop where
  e : o.e = none
  pa : PubA A a o.a
  rl : RelN L.reverse l o.l
theorem DarkS.b {A L : List Par} {l : Nms} {a : Ars} {o : EO} (h : DarkS A L l a o) : DarkB A L l a o := ⟨h.e, h.pa, [], o.l, rfl, h.rl⟩
theorem DarkB.back {A L : List Par} {l : Nms} {a : Ars} {o : EO} (h : DarkB A L l a o) : DarkS A L l a (o.back l) := by
  obtain ⟨l1, l0, h1, h2⟩ := h.bot
  refine ⟨h.e, h.pa, ?_⟩
  rw [EO.back_l h1 (by rw [h2.len.2, h2.len.1])]
  exact h2
theorem RelN.bottom : ∀ {R1 R : List Par} {l m : Nms}, RelN (R1 ++ R) l m → RelN R (l.drop R1.length) (m.drop R1.length)
  | [], R, l, m, h => h
  | p :: R1, R, l, m, ⟨v, v', r, r', h1, h2, h3, h4⟩ => by
    rw [h1, h2]
    exact h4.bottom
theorem RelN.bottoms {L M : List Par} {l m : Nms} (h : RelN (L ++ M).reverse l m) : RelN L.reverse (l.drop M.length) (m.drop M.length) := by
  rw [List.reverse_append] at h
  have := h.bottom
  rwa [List.length_reverse] at this
theorem nextL_app (L : List Par) (t : St1) : ∃ M, nextL L t = L ++ M := by
  unfold nextL
  by_cases k : t.kind = 1
  · rw [if_pos k]; exact ⟨_, rfl⟩
  · rw [if_neg k]; exact ⟨[], by simp⟩
theorem DarkB.below {A L M : List Par} {l m : Nms} {a : Ars} {o : EO} (h : DarkB A (L ++ M) m a o) (hm : m.drop M.length = l) : DarkB A L l a o := by
  obtain ⟨l1, l0, h1, h2⟩ := h.bot
  have h3 := h2.bottoms
  rw [hm] at h3
  exact ⟨h.e, h.pa, l1 ++ l0.take M.length, l0.drop M.length, by rw [List.append_assoc, List.take_append_drop]; exact h1, h3⟩
theorem times_dark {A L : List Par} {P : Nms → Ars → Prop} {f : Int → Nms → Ars → EO} {m : Int} (hr : ∀ l a, P l a → RelN L.reverse l l) (h : ∀ j l a, 0 ≤ j → j < m → P l a → DarkS A L l a (f j l a) ∧ P (f j l a).l (f j l a).a) : ∀ (n : Nat) (j : Int) (l : Nms) (a : Ars), 0 ≤ j → j + n ≤ m → P l a → DarkS A L l a (timesE f n j l a)
  | 0, j, l, a, _, _, hp => ⟨rfl, PubA.rfl', hr l a hp⟩
  | n + 1, j, l, a, h0, hj, hp => by
    have ⟨h1, h2⟩ := h j l a h0 (by omega) hp
    unfold timesE
    rw [if_neg (by rw [h1.e]; decide)]
    have h3 := times_dark hr h n (j + 1) _ _ (by omega) (by omega) h2
    exact ⟨h3.e, h1.pa.trans h3.pa, h1.rl.trans h3.rl⟩
/-- what is there, when a statement is done -/
structure At2 (A L : List Par) (l : Nms) (a : Ars) : Prop where
  nm : NmOk L l
  z : SzA A a
  wn : WN l
  wa : WA a
theorem At2.to {A L : List Par} {l : Nms} {a : Ars} {o : EO} (h : At2 A L l a) (hp : Pres l a o) {M : List Par} (hn : NmOk M o.l) : At2 A M o.l o.a := ⟨hn, h.z.to hp.sz, hp.wn, hp.wa⟩
theorem At2.loop {A L : List Par} {l : Nms} {a : Ars} (h : At2 A L l a) (nm : List UInt8) {j : Int} (h0 : 0 ≤ j) (h8 : j ≤ 8) : At2 A (L ++ [⟨nm, false, -1⟩]) ((nm, j) :: l) a := by
  refine ⟨?_, h.z, fun p hp => ?_, h.wa⟩
  · unfold NmOk
    rw [List.map_append, List.reverse_append]
    show nm :: l.map Prod.fst = nm :: (L.map Par.name).reverse
    rw [show l.map Prod.fst = (L.map Par.name).reverse from h.nm]
  · rcases List.mem_cons.1 hp with rfl | hp
    · exact ⟨h0, by show j ≤ 4294967295; omega⟩
    · exact h.wn p hp
theorem loop_pres {A L : List Par} {l : Nms} {a : Ars} {thn : List St1} {nm : List UInt8} {j : Int} (h : At2 A L l a) (hw : ∀ t ∈ thn, WfS t) (h0 : 0 ≤ j) (h8 : j ≤ 8) : At2 A L ((blE A ((nm, j) :: l) a thn).back l).l ((blE A ((nm, j) :: l) a thn).back l).a := by
  have h2 := h.loop nm h0 h8
  have p := blE_pres A thn ((nm, j) :: l) a hw h2.wn h2.wa
  have q := p.back (l0 := l) ⟨[nm], rfl⟩
  obtain ⟨p1, e1⟩ := p.nm
  refine ⟨?_, h.z.to q.sz, q.wn, q.wa⟩
  exact (back_fst (l := l) ⟨p1 ++ [nm], by rw [e1]; simp⟩).trans h.nm
theorem block_pres {A L : List Par} {l : Nms} {a : Ars} {thn : List St1} (h : At2 A L l a) (hw : ∀ t ∈ thn, WfS t) : At2 A L ((blE A l a thn).back l).l ((blE A l a thn).back l).a := by
  have p := blE_pres A thn l a hw h.wn h.wa
  have q := p.back (l0 := l) ⟨[], rfl⟩
  exact ⟨(back_fst (l := l) p.nm).trans h.nm, h.z.to q.sz, q.wn, q.wa⟩
theorem st_next {A L : List Par} {l : Nms} {a : Ars} {t : St1} (h : At2 A L l a) (hw : WfS t) (he : (stE A l a t).e = none) : At2 A (nextL L t) (stE A l a t).l (stE A l a t).a := by
  have p := stE_pres A t l a hw h.wn h.wa
  exact h.to p.1 (nextN_ok h.nm p.2 he)
mutual
theorem stE_dark {A : List Par} (hu : UniqA A) : ∀ (t : St1) (L : List Par) (l : Nms) (a : Ars), WfS t → TyS A L true t → At2 A L l a → DarkB A L l a (stE A l a t)
  | .mk kind n nm sec args thn els, L, l, a, hw, ht, hat => by
    have hs := wf_st hw
    have w1 : ∀ e ∈ args, WfE e := hs.args
    have w2 : ∀ s ∈ thn, WfS s := hs.thn
    have w3 : ∀ s ∈ els, WfS s := hs.els
    have w4 : kind = 5 → 0 ≤ n ∧ n ≤ 8 := fun e => by
      have hk := hs.kinds
      simp only [St1.kind, St1.n] at hk
      omega
    have hp := ht.parts
    have p1 : (argsC A L true args).2 = 0 := hp.args
    obtain ⟨v, e1⟩ := args_dark (l := l) hat.z hu args w1 p1
    rw [stE, e1]
    dsimp only
    by_cases k1 : kind = 1
    · rw [if_pos k1]
      exact ⟨rfl, PubA.rfl', [(nm, v.getD 0 0)], l, rfl, hat.nm.rel⟩
    rw [if_neg k1]
    by_cases k2 : kind = 2
    · rw [if_pos k2]
      obtain ⟨u, hf, _, hsec⟩ := hp.set_ k2
      refine DarkS.b ⟨rfl, PubA.rfl', hat.nm.rel.set1 fun u' hu' => ?_⟩
      rw [List.reverse_reverse] at hu'
      have hf' : findP L nm = some u := hf
      rw [hf'] at hu'
      injection hu' with hu'
      subst hu'
      cases hx : u.secret with
      | true => rfl
      | false => exact absurd (hsec hx).2 (by decide)
    rw [if_neg k2]
    by_cases k3 : kind = 3
    · rw [if_pos k3]
      obtain ⟨hpl, hsec⟩ := hp.put k3
      obtain ⟨p, hpf, hps, hd, hq⟩ := plC_ok hpl
      obtain ⟨d1, d2⟩ := hd rfl
      have d1' : (args.headD Ex.none).kind = 1 := d1
      have d2' : (args.headD Ex.none).n < p.size := d2
      have hA := hu nm p hpf
      rw [hat.z.at_ hA, dark_index e1 w1 d1', if_pos d2']
      refine DarkS.b ⟨rfl, PubA.rfl'.set1 _ _ fun q hq' => ?_, hat.nm.rel⟩
      rw [hA] at hq'
      injection hq' with hq'
      subst hq'
      cases hx : p.secret with
      | true => rfl
      | false => exact absurd (hsec (hq.trans hx)).2 (by decide)
    rw [if_neg k3]
    by_cases k4 : kind = 4
    · rw [if_pos k4]
      have t1 : TyB A L true thn := hp.thn k4
      have t2 : TyB A L true els := hp.els k4
      split
      · exact (blE_dark hu thn L l a w2 t1 hat).back.b
      · exact (blE_dark hu els L l a w3 t2 hat).back.b
    rw [if_neg k4]
    by_cases k5 : kind = 5
    · rw [if_pos k5]
      obtain ⟨h1, h2, h3⟩ := hp.loop k5
      have hn := w4 k5
      refine (times_dark (m := n) (P := At2 A L) (fun l a h => h.nm.rel) (fun j l a j0 jm hat => ?_) n.toNat 0 l a (by omega) (by omega) hat).b
      have t1 : TyB A (L ++ [⟨nm, false, -1⟩]) true thn := h3 (by show 0 < n.toNat; omega)
      exact ⟨((blE_dark hu thn _ _ a w2 t1 (hat.loop nm j0 (by omega))).below (M := [⟨nm, false, -1⟩]) (l := l) rfl).back, loop_pres hat w2 j0 (by omega)⟩
    rw [if_neg k5]
    exact absurd (hp.ret k1 k2 k3 k4 k5) (by decide)
theorem blE_dark {A : List Par} (hu : UniqA A) : ∀ (ts : List St1) (L : List Par) (l : Nms) (a : Ars), (∀ t ∈ ts, WfS t) → TyB A L true ts → At2 A L l a → DarkB A L l a (blE A l a ts)
  | [], L, l, a, _, _, hat => by
    rw [blE]
    exact DarkS.b ⟨rfl, PubA.rfl', hat.nm.rel⟩
  | t :: ts, L, l, a, hw, ht, hat => by
    obtain ⟨t1, t2⟩ := ht.cons
    have h1 := stE_dark hu t L l a (hw t (by simp)) t1 hat
    have h2 := st_next hat (hw t (by simp)) h1.e
    have h3 := blE_dark hu ts _ _ _ (fun s hs => hw s (by simp [hs])) t2 h2
    rw [blE, if_neg (by rw [h1.e]; decide)]
    obtain ⟨l1, l0, e1, r1⟩ := h1.bot
    obtain ⟨M, hM⟩ := nextL_app L t
    have hlen : (stE A l a t).l.length = L.length + M.length := by
      have := congrArg List.length (show (stE A l a t).l.map Prod.fst = _ from h2.nm)
      rw [hM] at this
      simp at this
      omega
    have hl0 : l0.length = L.length := by rw [r1.len.2, List.length_reverse]
    rw [hM] at h3
    have h4 := h3.below (M := M) (l := l0) (by
      rw [e1, List.length_append] at hlen
      rw [e1, show M.length = l1.length by omega, List.drop_left])
    obtain ⟨m1, m0, e4, r4⟩ := h4.bot
    exact ⟨h4.e, h1.pa.trans h4.pa, m1, m0, e4, r1.trans r4⟩
end
/-! ### two runs -/
def EndR (e e' : Option (Option Int)) : Prop := (e = none ∧ e' = none) ∨ (e = some none ∧ e' = some none) ∨ ∃ u v, e = some (some u) ∧ e' = some (some v)
theorem EndR.none {e e' : Option (Option Int)} (h : EndR e e') : e = Option.none → e' = Option.none := by
  rcases h with ⟨h, k⟩ | ⟨h, k⟩ | ⟨u, v, h, k⟩ <;> rw [h, k] <;> intro e <;> first | rfl | cases e
theorem EndR.is {e e' : Option (Option Int)} (h : EndR e e') : e.isSome = e'.isSome := by
  rcases h with ⟨h, k⟩ | ⟨h, k⟩ | ⟨u, v, h, k⟩ <;> rw [h, k] <;> rfl
structure TwoB (A L : List Par) (o o' : EO) : Prop where
  e : EndR o.e o'.e
  pa : PubA A o.a o'.a
  bot : o.e = none → ∃ l1 l0 m1 m0, o.l = l1 ++ l0 ∧ o'.l = m1 ++ m0 ∧ RelN L.reverse l0 m0
structure TwoS (A L : List Par) (o o' : EO) : Prop where
  e : EndR o.e o'.e
  pa : PubA A o.a o'.a
  rl : o.e = none → RelN L.reverse o.l o'.l
theorem TwoB.back {A L : List Par} {o o' : EO} {l l' : Nms} (h : TwoB A L o o') (hl : l.length = L.length) (hl' : l'.length = L.length) : TwoS A L (o.back l) (o'.back l') := by
  refine ⟨h.e, h.pa, fun he => ?_⟩
  obtain ⟨l1, l0, m1, m0, h1, h2, h3⟩ := h.bot he
  have h4 := h3.len
  rw [List.length_reverse] at h4
  rw [EO.back_l h1 (by omega), EO.back_l h2 (by omega)]
  exact h3
theorem TwoB.below {A L M : List Par} {o o' : EO} (h : TwoB A (L ++ M) o o') : TwoB A L o o' := by
  refine ⟨h.e, h.pa, fun he => ?_⟩
  obtain ⟨l1, l0, m1, m0, h1, h2, h3⟩ := h.bot he
  exact ⟨l1 ++ l0.take M.length, l0.drop M.length, m1 ++ m0.take M.length, m0.drop M.length, by rw [List.append_assoc, List.take_append_drop]; exact h1, by rw [List.append_assoc, List.take_append_drop]; exact h2, h3.bottoms⟩
theorem two_dark {A L : List Par} {l l' : Nms} {a a' : Ars} {o o' : EO} (hr : RelN L.reverse l l') (hp : PubA A a a') (h : DarkS A L l a o) (h' : DarkS A L l' a' o') : TwoS A L o o' :=
  ⟨.inl ⟨h.e, h'.e⟩, (h.pa.symm.trans hp).trans h'.pa, fun _ => (h.rl.symm.trans hr).trans h'.rl⟩
structure In2 (A L : List Par) (l l' : Nms) (a a' : Ars) : Prop where
  p : At2 A L l a
  q : At2 A L l' a'
  rl : RelN L.reverse l l'
  pa : PubA A a a'
theorem times_two {A L : List Par} {f : Int → Nms → Ars → EO} {m : Int} (h : ∀ j l l' a a', 0 ≤ j → j < m → In2 A L l l' a a' → TwoS A L (f j l a) (f j l' a') ∧ At2 A L (f j l a).l (f j l a).a ∧ At2 A L (f j l' a').l (f j l' a').a) : ∀ (n : Nat) (j : Int) (l l' : Nms) (a a' : Ars), 0 ≤ j → j + n ≤ m → In2 A L l l' a a' → TwoS A L (timesE f n j l a) (timesE f n j l' a')
  | 0, j, l, l', a, a', _, _, hp => ⟨.inl ⟨rfl, rfl⟩, hp.pa, fun _ => hp.rl⟩
  | n + 1, j, l, l', a, a', h0, hj, hp => by
    have ⟨h1, h2, h3⟩ := h j l l' a a' h0 (by omega) hp
    unfold timesE
    rw [← h1.e.is]
    by_cases hx : (f j l a).e = none
    · rw [if_neg (by rw [hx]; decide), if_neg (by rw [hx]; decide)]
      exact times_two h n (j + 1) _ _ _ _ (by omega) (by omega) ⟨h2, h3, h1.rl hx, h1.pa⟩
    · have hy : (f j l a).e.isSome = true := by cases hz : (f j l a).e with
        | none => exact absurd hz hx
        | some _ => rfl
      rw [if_pos hy, if_pos hy]
      exact h1
mutual
theorem stE_two {A : List Par} (hu : UniqA A) : ∀ (t : St1) (L : List Par) (l l' : Nms) (a a' : Ars), WfS t → TyS A L false t → In2 A L l l' a a' → TwoS A (nextL L t) (stE A l a t) (stE A l' a' t)
  | .mk kind n nm sec args thn els, L, l, l', a, a', hw, ht, hin => by
    have hs := wf_st hw
    have w1 : ∀ e ∈ args, WfE e := hs.args
    have w2 : ∀ s ∈ thn, WfS s := hs.thn
    have w3 : ∀ s ∈ els, WfS s := hs.els
    have w4 : kind = 5 → 0 ≤ n ∧ n ≤ 8 := fun e => by
      have hk := hs.kinds
      simp only [St1.kind, St1.n] at hk
      omega
    have hfew : kind = 3 → args.length = 2 := fun e => by
      rcases hs.kinds with ⟨k, _⟩ | ⟨k, _⟩ | ⟨k, x, y, h⟩ | ⟨k, _⟩ | ⟨k, _⟩ | ⟨k, _⟩ <;> simp only [St1.kind] at k <;> try omega
      exact congrArg List.length h
    have hone : ¬ kind = 5 → 0 < args.length := fun e => by
      rcases hs.kinds with ⟨k, x, h⟩ | ⟨k, x, h⟩ | ⟨k, x, y, h⟩ | ⟨k, x, h⟩ | ⟨k, _⟩ | ⟨k, x, h⟩ <;> first | (have h : args = _ := h; rw [h]; simp; done) | exact absurd k e
    have hp := ht.parts
    have p1 : (argsC A L false args).2 = 0 := hp.args
    have hnl : ¬ kind = 1 → nextL L (.mk kind n nm sec args thn els) = L := fun e => if_neg e
    have hnl1 : kind = 1 → nextL L (.mk kind n nm sec args thn els) = L ++ [⟨nm, sec, 0⟩] := fun e => if_pos e
    rw [stE, stE]
    rcases argsE_ni ⟨hin.rl, hin.p.z, hin.q.z, hin.pa, hu⟩ args p1 with ⟨e1, e2⟩ | ⟨u, v, e1, e2, e3⟩
    · rw [e1, e2]
      exact ⟨.inr (.inl ⟨rfl, rfl⟩), hin.pa, fun h => by cases h⟩
    rw [e1, e2]
    dsimp only
    by_cases k1 : kind = 1
    · rw [if_pos k1, if_pos k1, hnl1 k1]
      refine ⟨.inl ⟨rfl, rfl⟩, hin.pa, fun _ => RelN.next (p := ⟨nm, sec, 0⟩) hin.rl fun hsec => ?_⟩
      exact e3 0 ((hp.let_ k1).2.2 hsec).1 (hone (by omega))
    rw [if_neg k1, if_neg k1, hnl k1]
    by_cases k2 : kind = 2
    · rw [if_pos k2, if_pos k2]
      obtain ⟨x, hf, _, hsec⟩ := hp.set_ k2
      refine ⟨.inl ⟨rfl, rfl⟩, hin.pa, fun _ => hin.rl.set2 fun u' hu' hs' => ?_⟩
      rw [List.reverse_reverse] at hu'
      have hf' : findP L nm = some x := hf
      rw [hf'] at hu'
      injection hu' with hu'
      subst hu'
      exact e3 0 (hsec hs').1 (hone (by omega))
    rw [if_neg k2, if_neg k2]
    by_cases k3 : kind = 3
    · rw [if_pos k3, if_pos k3]
      obtain ⟨hpl, hsec⟩ := hp.put k3
      obtain ⟨p, hpf, hps, _, hq⟩ := plC_ok hpl
      have hix : u.getD 0 0 = v.getD 0 0 := e3 0 hps (hone (by omega))
      have hA := hu nm p hpf
      rw [hin.p.z.at_ hA, hin.q.z.at_ hA, hix]
      by_cases hlt : v.getD 0 0 < p.size
      · rw [if_pos hlt, if_pos hlt]
        refine ⟨.inl ⟨rfl, rfl⟩, hin.pa.set2 hin.p.z hin.q.z _ _ _ fun q hq' hs' => ?_, fun _ => hin.rl⟩
        rw [hA] at hq'
        injection hq' with hq'
        subst hq'
        rw [hin.pa _ p hA hs', e3 1 (hsec (hq.trans hs')).1 (by rw [hfew k3]; decide)]
      · rw [if_neg hlt, if_neg hlt]
        exact ⟨.inr (.inl ⟨rfl, rfl⟩), hin.pa, fun h => by cases h⟩
    rw [if_neg k3, if_neg k3]
    by_cases k4 : kind = 4
    · rw [if_pos k4, if_pos k4]
      have t1 : TyB A L (false || (argsC A L false args).1.headD false) thn := hp.thn k4
      have t2 : TyB A L (false || (argsC A L false args).1.headD false) els := hp.els k4
      have hl := hin.rl.len
      rw [List.length_reverse] at hl
      cases hb : (argsC A L false args).1.headD false with
      | false =>
        rw [hb] at t1 t2
        have hix : u.getD 0 0 = v.getD 0 0 := e3 0 (by
          cases hx : (argsC A L false args).1 with
          | nil => rfl
          | cons c cs => rw [hx] at hb; exact hb) (hone (by omega))
        rw [hix]
        split
        · exact (blE_two hu thn L l l' a a' w2 t1 hin).back hl.1 hl.2
        · exact (blE_two hu els L l l' a a' w3 t2 hin).back hl.1 hl.2
      | true =>
        rw [hb] at t1 t2
        have d1 : DarkS A L l a (if u.getD 0 0 ≠ 0 then (blE A l a thn).back l else (blE A l a els).back l) := by
          split
          · exact (blE_dark hu thn L l a w2 t1 hin.p).back
          · exact (blE_dark hu els L l a w3 t2 hin.p).back
        have d2 : DarkS A L l' a' (if v.getD 0 0 ≠ 0 then (blE A l' a' thn).back l' else (blE A l' a' els).back l') := by
          split
          · exact (blE_dark hu thn L l' a' w2 t1 hin.q).back
          · exact (blE_dark hu els L l' a' w3 t2 hin.q).back
        exact two_dark hin.rl hin.pa d1 d2
    rw [if_neg k4, if_neg k4]
    by_cases k5 : kind = 5
    · rw [if_pos k5, if_pos k5]
      obtain ⟨h1, h2, h3⟩ := hp.loop k5
      have hn := w4 k5
      refine times_two (m := n) (fun j l l' a a' j0 jm hin => ?_) n.toNat 0 l l' a a' (by omega) (by omega) hin
      have t1 : TyB A (L ++ [⟨nm, false, -1⟩]) false thn := h3 (by show 0 < n.toNat; omega)
      have hl := hin.rl.len
      rw [List.length_reverse] at hl
      exact ⟨((blE_two hu thn _ _ _ a a' w2 t1 ⟨hin.p.loop nm j0 (by omega), hin.q.loop nm j0 (by omega), RelN.next (p := ⟨nm, false, -1⟩) hin.rl (fun _ => rfl), hin.pa⟩).below).back hl.1 hl.2, loop_pres hin.p w2 j0 (by omega), loop_pres hin.q w2 j0 (by omega)⟩
    rw [if_neg k5, if_neg k5]
    exact ⟨.inr (.inr ⟨_, _, rfl, rfl⟩), hin.pa, fun h => by cases h⟩
theorem blE_two {A : List Par} (hu : UniqA A) : ∀ (ts : List St1) (L : List Par) (l l' : Nms) (a a' : Ars), (∀ t ∈ ts, WfS t) → TyB A L false ts → In2 A L l l' a a' → TwoB A L (blE A l a ts) (blE A l' a' ts)
  | [], L, l, l', a, a', _, _, hin => by
    rw [blE, blE]
    exact ⟨.inl ⟨rfl, rfl⟩, hin.pa, fun _ => ⟨[], l, [], l', rfl, rfl, hin.rl⟩⟩
  | t :: ts, L, l, l', a, a', hw, ht, hin => by
    obtain ⟨t1, t2⟩ := ht.cons
    have h1 := stE_two hu t L l l' a a' (hw t (by simp)) t1 hin
    rw [blE, blE, ← h1.e.is]
    by_cases hx : (stE A l a t).e = none
    · rw [if_neg (by rw [hx]; decide), if_neg (by rw [hx]; decide)]
      have hy := h1.e.none hx
      have h3 := blE_two hu ts _ _ _ _ _ (fun s hs => hw s (by simp [hs])) t2 ⟨st_next hin.p (hw t (by simp)) hx, st_next hin.q (hw t (by simp)) hy, h1.rl hx, h1.pa⟩
      obtain ⟨M, hM⟩ := nextL_app L t
      rw [hM] at h3
      exact h3.below
    · have hy : (stE A l a t).e.isSome = true := by cases hz : (stE A l a t).e with
        | none => exact absurd hz hx
        | some _ => rfl
      rw [if_pos hy, if_pos hy]
      exact ⟨h1.e, h1.pa, fun h => absurd h hx⟩
end
/-! ### how a program begins -/
def startN (ps : List Par) (ws : List Int) : Nms := ((ps.map Par.name).zip ws).reverse
theorem start_snoc (ps : List Par) (p : Par) (ws : List Int) (h : ws.length = ps.length + 1) : startN (ps ++ [p]) ws = (p.name, ws.getD ps.length 0) :: startN ps (ws.take ps.length) := by
  unfold startN
  have e : ws = ws.take ps.length ++ [ws.getD ps.length 0] := by
    rw [List.getD_eq_getElem?_getD, List.getElem?_eq_getElem (by omega)]
    simp only [Option.getD_some]
    rw [List.take_append_getElem, List.take_of_length_le (by omega)]
  conv => lhs; rw [e]
  rw [List.map_append, List.zip_append (by simp; omega), List.reverse_append]
  rfl
theorem start_rel : ∀ (R : List Par) (ws ws' : List Int), ws.length = R.length → ws'.length = R.length → (∀ i p, R.reverse[i]? = some p → p.secret = false → ws.getD i 0 = ws'.getD i 0) → RelN R (startN R.reverse ws) (startN R.reverse ws')
  | [], _, _, _, _, _ => ⟨by unfold startN; simp, by unfold startN; simp⟩
  | p :: R, ws, ws', h1, h2, h3 => by
    simp only [List.length_cons] at h1 h2
    have hl : R.reverse.length = R.length := List.length_reverse
    rw [List.reverse_cons, start_snoc _ _ _ (by omega), start_snoc _ _ _ (by omega)]
    refine ⟨_, _, _, _, rfl, rfl, fun hs => h3 R.reverse.length p (by rw [List.reverse_cons]; simp) hs, start_rel R _ _ (by rw [List.length_take]; omega) (by rw [List.length_take]; omega) fun i q hq hs => ?_⟩
    have hi := (List.getElem?_eq_some_iff.1 hq).1
    have := h3 i q (by rw [List.reverse_cons, List.getElem?_append_left hi]; exact hq) hs
    rw [List.getD_eq_getElem?_getD, List.getD_eq_getElem?_getD] at this ⊢
    rw [List.getElem?_take_of_lt hi, List.getElem?_take_of_lt hi]
    exact this
end Ev
