import Derived.Test.YtpbflgemhcaooaaDoorPt10
/- A drawn region in whose operations calls and allocations come up in any order: it is walked once, in the order of its text. Of a call, or an allocation, only what holds of its result, in every later world, is known (a predicate, that stands as long as the world only grows). -/
namespace Go.Proofs.YtpbflgemhcaooaaDoor
open Go.RowKit
set_option linter.unusedSimpArgs false
set_option linter.unusedVariables false
section
variable {P : Program} {ops : Array Oper} {Q : Exit → Act → World → Prop}
def markDeps (ops : Array Oper) (i : Nat) (m : Array Bool) : Array Bool := match ops[i]? with
  | some o => o.after.toList.foldl (fun m e => if Region.binds .any e then m.setIfInBounds e.on true else m) m
  | none => m
def reachGo (ops : Array Oper) : Nat → Array Bool → Array Bool
  | 0, m => m
  | i + 1, m => if m.getD i false then reachGo ops i (markDeps ops i m) else reachGo ops i m
/-- operation i comes up behind operation j -/
def waits (ops : Array Oper) (i j : Nat) : Bool := (reachGo ops i (markDeps ops i (Array.replicate ops.size false))).getD j false
theorem foldl_marked {listed : Array Bool} : ∀ (es : List Edge) (m : Array Bool), (∀ e ∈ es, Region.binds .any e = true → listed.getD e.on false = true) → (∀ j, m.getD j false = true → listed.getD j false = true) →
    ∀ j, (es.foldl (fun m e => if Region.binds .any e then m.setIfInBounds e.on true else m) m).getD j false = true → listed.getD j false = true
  | [], m, _, hm, j, h => hm j h
  | e :: es, m, hd, hm, j, h => by
    refine foldl_marked es _ (fun e' he' => hd e' (List.mem_cons_of_mem _ he')) (fun i hi => ?_) j h
    dsimp only at hi
    split at hi
    · rename_i hb
      by_cases hie : e.on = i
      · subst hie; exact hd e List.mem_cons_self hb
      · rw [getD_set_ne false hie] at hi; exact hm i hi
    · exact hm i hi
theorem markDeps_listed {listed : Array Bool} {i : Nat} {m : Array Bool} (hd : ∀ o, ops[i]? = some o → ∀ e ∈ o.after, Region.binds .any e = true → listed.getD e.on false = true) (hm : ∀ j, m.getD j false = true → listed.getD j false = true) :
    ∀ j, (markDeps ops i m).getD j false = true → listed.getD j false = true := by
  intro j h
  unfold markDeps at h
  cases ho : ops[i]? with
  | none => rw [ho] at h; exact hm j h
  | some o =>
    rw [ho] at h
    exact foldl_marked _ m (fun e he hb => hd o ho e (by simpa using he) hb) hm j h
theorem reachGo_listed {listed : Array Bool} (hc : closedL ops listed) : ∀ (n : Nat) (m : Array Bool), (∀ j, m.getD j false = true → listed.getD j false = true) → ∀ j, (reachGo ops n m).getD j false = true → listed.getD j false = true
  | 0, m, hm, j, h => hm j h
  | n + 1, m, hm, j, h => by
    unfold reachGo at h
    split at h
    · rename_i hn
      exact reachGo_listed hc n _ (markDeps_listed (fun o ho e he hb => hc n o ho (hm n hn) e he hb) hm) j h
    · exact reachGo_listed hc n m hm j h
theorem waits_listed {listed : Array Bool} (hc : closedL ops listed) {i j : Nat} {o : Oper} (hi : ops[i]? = some o) (hd : ∀ e ∈ o.after, Region.binds .any e = true → listed.getD e.on false = true) (h : waits ops i j = true) : listed.getD j false = true := by
  unfold waits at h
  refine reachGo_listed hc i _ (markDeps_listed (fun o' ho' e he hb => ?_) (fun j hj => ?_)) j h
  · rw [hi] at ho'; injection ho' with ho'; subst ho'; exact hd e he hb
  · simp [Array.getD_eq_getD_getElem?, Array.getElem?_replicate] at hj
    split at hj <;> simp at hj

/-- what is known of a heavy operation's result: R in the worlds that follow, ok of the value alone -/
structure Hv where
  R : Value → World → Prop
  ok : Value → Prop
  imp : ∀ v w, R v w → ok v
  dum : ∃ v, ok v
  stay : ∀ v w w', Below w.heap.size w w' → R v w → R v w'
def grewTo (a : Act) (d : Option Tmp) (w : World) (R : Value → World → Prop) : Exit → Act → World → Prop :=
  fun e a' w' => e = .normal ∧ ∃ v, a' = a.put d v ∧ Below w.heap.size w w' ∧ R v w'
theorem grewTo_at {a a' : Act} {d : Option Tmp} {w w' : World} {R : Value → World → Prop} (hp : a' = a.put d (a'.eval (.tmp (d.getD 0)))) (hb : Below w.heap.size w w') (hR : R (a'.eval (.tmp (d.getD 0))) w') : grewTo a d w R .normal a' w' := ⟨rfl, _, hp, hb, hR⟩
theorem grewTo_intro {a : Act} {d : Option Tmp} {w w' : World} {v : Value} {R : Value → World → Prop} (hb : Below w.heap.size w w') (hR : R v w') : grewTo a d w R .normal (a.put d v) w' := ⟨rfl, v, rfl, hb, hR⟩

def flock (P : Program) (ops : Array Oper) (W : World) (pr : Nat → Option Hv) (K : Act → World → Prop) : Nat → List (Nat × (World → Prop)) → List Oper → Act → Prop
  | _, hs, [], a => ∀ w, Below W.heap.size W w → (∀ p ∈ hs, p.2 w) → K a w
  | k, hs, o :: rest, a => match pr k with
    | none => ∃ c, YieldsIf P ops (fun w => Below W.heap.size W w ∧ ∀ p ∈ hs, waits ops k p.1 = true → p.2 w) o c a ∧ flock P ops W pr K (k + 1) hs rest (a.put o.dst c)
    | some R => (∀ w, Below W.heap.size W w → (∀ p ∈ hs, waits ops k p.1 = true → p.2 w) → wpList P ops (grewTo a o.dst w R.R) [o] a w) ∧ ∀ v, R.ok v → flock P ops W pr K (k + 1) ((k, R.R v) :: hs) rest (a.put o.dst v)

variable {W : World} {pr : Nat → Option Hv} {K : Act → World → Prop}
theorem flock_light {k : Nat} {hs : List (Nat × (World → Prop))} {o : Oper} {rest : List Oper} {a : Act} {c : Value} (hp : pr k = none)
    (h : light1 P ops (fun w => Below W.heap.size W w ∧ ∀ p ∈ hs, waits ops k p.1 = true → p.2 w) o a c) (hr : flock P ops W pr K (k + 1) hs rest (a.put o.dst c)) : flock P ops W pr K k hs (o :: rest) a := by
  unfold flock; rw [hp]; exact ⟨c, h, hr⟩
theorem flock_heavy {k : Nat} {hs : List (Nat × (World → Prop))} {o : Oper} {rest : List Oper} {a : Act} (R : Hv) (hp : pr k = some R)
    (h : ∀ w, Below W.heap.size W w → (∀ p ∈ hs, waits ops k p.1 = true → p.2 w) → wpList P ops (grewTo a o.dst w R.R) [o] a w) (hr : ∀ v, R.ok v → flock P ops W pr K (k + 1) ((k, R.R v) :: hs) rest (a.put o.dst v)) : flock P ops W pr K k hs (o :: rest) a := by
  unfold flock; rw [hp]; exact ⟨h, hr⟩
theorem flock_nil {k : Nat} {hs : List (Nat × (World → Prop))} {a : Act} (h : ∀ w, Below W.heap.size W w → (∀ p ∈ hs, p.2 w) → K a w) : flock P ops W pr K k hs [] a := h

theorem flock_mono {K' : Act → World → Prop} (hK : ∀ a w, K a w → K' a w) : ∀ (l : List Oper) (k : Nat) (hs : List (Nat × (World → Prop))) (a : Act), flock P ops W pr K k hs l a → flock P ops W pr K' k hs l a
  | [], k, hs, a, h => fun w hw hp => hK _ _ (h w hw hp)
  | o :: l, k, hs, a, h => by
    unfold flock at h ⊢
    cases hp : pr k with
    | none =>
      rw [hp] at h
      obtain ⟨c, h1, h2⟩ := h
      exact ⟨c, h1, flock_mono hK l _ _ _ h2⟩
    | some R =>
      rw [hp] at h
      exact ⟨h.1, fun v hv => flock_mono hK l _ _ _ (h.2 v hv)⟩
/-- the acts of one choice of values -/
structure Good (P : Program) (ops : Array Oper) (W : World) (pr : Nat → Option Hv) (K : Act → World → Prop) (k : Nat) (hs : List (Nat × (World → Prop))) (l : List Oper) (a : Act) (G : Nat → Value) : Prop where
  light : ∀ j o, l[j]? = some o → pr (k + j) = none → YieldsIf P ops (fun w => Below W.heap.size W w ∧ (∀ p ∈ hs, waits ops (k + j) p.1 = true → p.2 w) ∧ ∀ i R, waits ops (k + j) (k + i) = true → pr (k + i) = some R → R.R (G i) w) o (G j) (actAt l G a j)
  heavy : ∀ j o R, l[j]? = some o → pr (k + j) = some R → ∀ w, Below W.heap.size W w → (∀ p ∈ hs, waits ops (k + j) p.1 = true → p.2 w) → (∀ i R', waits ops (k + j) (k + i) = true → pr (k + i) = some R' → R'.R (G i) w) → wpList P ops (grewTo (actAt l G a j) o.dst w R.R) [o] (actAt l G a j) w
  fin : ∀ w, Below W.heap.size W w → (∀ p ∈ hs, p.2 w) → (∀ i R, i < l.length → pr (k + i) = some R → R.R (G i) w) → K (actAt l G a l.length) w

theorem YieldsIf.imp {S S' : World → Prop} {o : Oper} {c : Value} {a : Act} (h : YieldsIf P ops S o c a) (hs : ∀ w, S' w → S w) : YieldsIf P ops S' o c a :=
  Or.imp (fun ⟨h1, h2⟩ => ⟨h1, fun w hw => h2 w (hs w hw)⟩) id h

theorem flock_acts : ∀ (l : List Oper) (k : Nat) (hs : List (Nat × (World → Prop))) (a : Act), flock P ops W pr K k hs l a → ∀ V : Nat → Value, (∀ j R, pr j = some R → R.ok (V j)) → ∃ G : Nat → Value, (∀ j, (pr (k + j)).isSome = true → G j = V (k + j)) ∧ Good P ops W pr K k hs l a G
  | [], k, hs, a, h, V, hV => ⟨fun j => V (k + j), fun _ _ => rfl, ⟨fun j o hj => by simp at hj, fun j o R hj => by simp at hj, fun w hw hp _ => h w hw hp⟩⟩
  | o :: l, k, hs, a, h, V, hok => by
    unfold flock at h
    cases hp : pr k with
    | none =>
      rw [hp] at h
      obtain ⟨c, h1, h2⟩ := h
      obtain ⟨G, hV, hG⟩ := flock_acts l (k + 1) hs (a.put o.dst c) h2 V hok
      refine ⟨fun i => match i with | 0 => c | i + 1 => G i, fun j hj => ?_, ⟨fun j o' hj hpj => ?_, fun j o' R hj hpj w hw h3 h4 => ?_, fun w hw h3 h4 => ?_⟩⟩
      · cases j with
        | zero => rw [Nat.add_zero, hp] at hj; cases hj
        | succ j =>
          have := hV j (by rw [show k + 1 + j = k + (j + 1) by omega]; exact hj)
          rw [show k + 1 + j = k + (j + 1) by omega] at this
          exact this
      · cases j with
        | zero =>
          simp at hj
          subst hj
          simp only [actAt, Nat.add_zero]
          exact YieldsIf.imp h1 fun w hw => ⟨hw.1, fun p hp' hwt => hw.2.1 p hp' hwt⟩
        | succ j =>
          have := hG.light j o' (by simpa using hj) (by rw [show k + 1 + j = k + (j + 1) by omega]; exact hpj)
          rw [actAt_cons]
          refine YieldsIf.imp this fun w hw => ⟨hw.1, fun p hp' hwt => hw.2.1 p hp' (by rw [show k + (j + 1) = k + 1 + j by omega]; exact hwt), fun i R hi hR => hw.2.2 (i + 1) R (by rw [show k + (j + 1) = k + 1 + j by omega, show k + (i + 1) = k + 1 + i by omega]; exact hi) (by rw [show k + (i + 1) = k + 1 + i by omega]; exact hR)⟩
      · cases j with
        | zero => rw [Nat.add_zero, hp] at hpj; cases hpj
        | succ j =>
          have := hG.heavy j o' R (by simpa using hj) (by rw [show k + 1 + j = k + (j + 1) by omega]; exact hpj) w hw (fun p hp' hwt => h3 p hp' (by rw [show k + (j + 1) = k + 1 + j by omega]; exact hwt))
            (fun i R' hi hR => h4 (i + 1) R' (by rw [show k + (j + 1) = k + 1 + j by omega, show k + (i + 1) = k + 1 + i by omega]; exact hi) (by rw [show k + (i + 1) = k + 1 + i by omega]; exact hR))
          rw [actAt_cons]
          exact this
      · rw [List.length_cons, actAt_cons]
        exact hG.fin w hw h3 (fun i R hi hR => h4 (i + 1) R (by simpa using hi) (by rw [show k + (i + 1) = k + 1 + i by omega]; exact hR))
    | some R0 =>
      rw [hp] at h
      obtain ⟨h1, h2⟩ := h
      obtain ⟨G, hV, hG⟩ := flock_acts l (k + 1) ((k, R0.R (V k)) :: hs) (a.put o.dst (V k)) (h2 (V k) (hok k R0 hp)) V hok
      refine ⟨fun i => match i with | 0 => V k | i + 1 => G i, fun j hj => ?_, ⟨fun j o' hj hpj => ?_, fun j o' R hj hpj w hw h3 h4 => ?_, fun w hw h3 h4 => ?_⟩⟩
      · cases j with
        | zero => rfl
        | succ j =>
          have := hV j (by rw [show k + 1 + j = k + (j + 1) by omega]; exact hj)
          rw [show k + 1 + j = k + (j + 1) by omega] at this
          exact this
      · cases j with
        | zero => rw [Nat.add_zero, hp] at hpj; cases hpj
        | succ j =>
          have := hG.light j o' (by simpa using hj) (by rw [show k + 1 + j = k + (j + 1) by omega]; exact hpj)
          rw [actAt_cons]
          refine YieldsIf.imp this fun w hw => ⟨hw.1, fun p hp' hwt => ?_, fun i R hi hR => hw.2.2 (i + 1) R (by rw [show k + (j + 1) = k + 1 + j by omega, show k + (i + 1) = k + 1 + i by omega]; exact hi) (by rw [show k + (i + 1) = k + 1 + i by omega]; exact hR)⟩
          rcases List.mem_cons.1 hp' with rfl | hp'
          · exact hw.2.2 0 R0 (by rw [show k + (j + 1) = k + 1 + j by omega]; exact hwt) hp
          · exact hw.2.1 p hp' (by rw [show k + (j + 1) = k + 1 + j by omega]; exact hwt)
      · cases j with
        | zero =>
          simp at hj
          subst hj
          rw [Nat.add_zero, hp] at hpj
          injection hpj with hpj
          subst hpj
          simp only [actAt]
          exact h1 w hw h3
        | succ j =>
          have := hG.heavy j o' R (by simpa using hj) (by rw [show k + 1 + j = k + (j + 1) by omega]; exact hpj) w hw (fun p hp' hwt => by
              rcases List.mem_cons.1 hp' with rfl | hp'
              · exact h4 0 R0 (by rw [show k + (j + 1) = k + 1 + j by omega]; exact hwt) hp
              · exact h3 p hp' (by rw [show k + (j + 1) = k + 1 + j by omega]; exact hwt))
            (fun i R' hi hR => h4 (i + 1) R' (by rw [show k + (j + 1) = k + 1 + j by omega, show k + (i + 1) = k + 1 + i by omega]; exact hi) (by rw [show k + (i + 1) = k + 1 + i by omega]; exact hR))
          rw [actAt_cons]
          exact this
      · rw [List.length_cons, actAt_cons]
        refine hG.fin w hw (fun p hp' => ?_) (fun i R hi hR => h4 (i + 1) R (by simpa using hi) (by rw [show k + (i + 1) = k + 1 + i by omega]; exact hR))
        rcases List.mem_cons.1 hp' with rfl | hp'
        · exact h4 0 R0 (by simp) hp
        · exact h3 p hp'

theorem YieldsIf.look {S : World → Prop} {o : Oper} {c : Value} {a b : Act} (hs : ∀ cs b, o.op ≠ .select cs b) (h : YieldsIf P ops S o c a) (hl : ∀ t ∈ o.looksAt ops, a.tmps[t]? = b.tmps[t]?) : YieldsIf P ops S o c b := by
  obtain ⟨he, hw⟩ := look_congr o hs a b hl
  unfold YieldsIf at *
  rw [← he, ← hw]
  exact h
theorem YieldsIf.one {S S' : World → Prop} {o : Oper} {c c' : Value} {a : Act} {w : World} (h : YieldsIf P ops S o c a) (h' : YieldsIf P ops S' o c' a) (hS : S w) (hS' : S' w) : c = c' := by
  rcases h with ⟨h1, h2⟩ | ⟨h1, rfl⟩ <;> rcases h' with ⟨h3, h4⟩ | ⟨h3, rfl⟩
  · have e := (h2 w hS).symm.trans (h4 w hS')
    injection e with e
    injection e
  · rw [h1] at h3; cases h3
  · rw [h1] at h3; cases h3
  · rfl
theorem heavy_wpOp {j : Nat} {o : Oper} {A a : Act} {K : Act → World → Prop} {w : World} {R : Value → World → Prop} (hj : ops[j]? = some o) (hs : ∀ cs b, o.op ≠ .select cs b)
    (h1 : wpList P ops (grewTo A o.dst w R) [o] A w) (hlook : ∀ t ∈ o.looksAt ops, A.tmps[t]? = a.tmps[t]?) (hsz : A.tmps.size = a.tmps.size)
    (hK : ∀ v w', Below w.heap.size w w' → R v w' → K (a.put o.dst v) w') : wpOp P ops Q j K a w := by
  obtain ⟨he, hw⟩ := look_congr o hs A a hlook
  have fin : ∀ u w', wpList P ops (grewTo A o.dst w R) [] (A.put o.dst u) w' → K (a.put o.dst u) w' := fun u w' h2 => by
    obtain ⟨_, v, h3, h4, h5⟩ := h2
    rw [put_same h3 hsz]
    exact hK v w' h4 h5
  unfold wpOp
  simp only [hj]
  unfold wpList at h1
  rw [hw] at h1
  split
  · rename_i hwt
    rw [if_pos hwt] at h1
    refine .inl ?_
    rcases h1 with h1 | ⟨_, a', w', h1, _⟩
    case inr => cases h1
    unfold Oper.wp at *
    rw [he] at h1
    generalize (execOp a.eval o).run P w = r at *
    cases r with
    | ok n w' =>
      cases n <;> simp only [Oper.upon] at h1 ⊢
      case value u => exact fin u w' h1
      case skip => exact fin undef w' h1
      case defer d =>
        obtain ⟨_, v, h3, _⟩ := h1
        have := congrArg Act.defers h3
        rw [put_defers', put_defers'] at this
        exact absurd (congrArg List.length this) (by simp)
      case enter f args =>
        refine Calls.mono h1 fun e w'' he => ?_
        cases e with
        | returned u => exact fin u w'' he
        | panicked c => exact absurd he.1 (by simp)
        | outgrown => obtain ⟨a', w', h2, _⟩ := he; cases h2
      case row row args => exact Rows.mono h1 fun u w'' he => fin u w'' he
    | halt x w' =>
      cases x <;> simp only [Oper.upon] at h1 ⊢
      case panic u => exact absurd h1.1 (by simp)
  · rename_i hwt
    rw [if_neg hwt] at h1
    exact fin undef w h1

theorem orderly_once {l : List Oper} (ho : orderly l.toArray = true) (i j : Nat) (o o' : Oper) (t : Tmp) (hi : l[i]? = some o) (hj : l[j]? = some o') (h1 : o.dst = some t) (h2 : o'.dst = some t) : i = j := by
  rcases Nat.lt_trichotomy i j with h | h | h
  · exact absurd h2 (((orderly_spec ho (j := j) (oj := o') (by simpa using hj)).2 i o t (by simpa using hi) h1).1 (by omega))
  · exact h
  · exact absurd h2 (((orderly_spec ho (j := j) (oj := o') (by simpa using hj)).2 i o t (by simpa using hi) h1).1 (by omega))
theorem Stands.all {l : List Oper} {F : Nat → Value} {a0 a : Act} {listed : Array Bool} (hst : Stands l F a0 listed a) (hall : ∀ i, i < l.length → listed.getD i true = true) : a = actAt l F a0 l.length := by
  have e1 : a.tmps = (actAt l F a0 l.length).tmps := by
    have pt : ∀ t : Nat, a.tmps[t]? = (actAt l F a0 l.length).tmps[t]? := fun t => by
      by_cases hx : ∃ (i : Nat) (o : Oper), l[i]? = some o ∧ o.dst = some t
      · obtain ⟨i, o, hi, hd⟩ := hx
        exact hst.yes i o t hi hd (hall i (List.getElem?_eq_some_iff.1 hi).1)
      · have h1 := hst.no t (fun i o hi hd => absurd ⟨i, o, hi, hd⟩ hx)
        have h2 := actAt_still l F a0 t 0 l.length (fun i o _ _ hi hd => hx ⟨i, o, hi, hd⟩)
        rw [Nat.zero_add] at h2
        rw [h1, h2]
        rfl
    apply Array.ext_getElem?
    intro t
    exact pt t
  have e2 : a.defers = (actAt l F a0 l.length).defers := by rw [hst.defers, actAt_defers]
  cases a
  simp only at e1 e2
  rw [e1, e2]
theorem actAt_last {l : List Oper} (ho : orderly l.toArray = true) (F : Nat → Value) (a0 : Act) (i : Nat) (o : Oper) (t : Tmp) (hi : l[i]? = some o) (hd : o.dst = some t) (k : Nat) (hk : i < k) (hkl : k ≤ l.length) : (actAt l F a0 l.length).tmps[t]? = (actAt l F a0 k).tmps[t]? := by
  have := actAt_still l F a0 t k (l.length - k) (fun i' o' h1 _ h3 h4 => by have := orderly_once ho i i' o o' t hi h3 hd h4; omega)
  rw [← this, show k + (l.length - k) = l.length from by omega]
theorem Stands.look {l : List Oper} {F : Nat → Value} {a0 a : Act} {listed : Array Bool} (ho : orderly l.toArray = true) (hst : Stands l F a0 listed a) (hsz : listed.size = l.length) {j : Nat} {oj : Oper} (hj : l[j]? = some oj)
    (hdeps : ∀ e ∈ oj.after, Region.binds .any e = true → listed.getD e.on false = true) : ∀ t ∈ oj.looksAt l.toArray, (actAt l F a0 j).tmps[t]? = a.tmps[t]? := by
  intro t ht
  have hjl : j < l.length := (List.getElem?_eq_some_iff.1 hj).1
  obtain ⟨hlt, hsp⟩ := orderly_spec ho (j := j) (oj := oj) (by simpa using hj)
  by_cases hx : ∃ (i : Nat) (o : Oper), l[i]? = some o ∧ o.dst = some t
  · obtain ⟨i, o, hi, hd⟩ := hx
    obtain ⟨e, he, heq, hb⟩ := (hsp i o t (by simpa using hi) hd).2 ht
    have hl := hdeps e he hb
    rw [heq] at hl
    have hij : i < j := by have := hlt e he hb; omega
    have hil : i < listed.size := by omega
    rw [hst.yes i o t hi hd (by simp [hil] at hl ⊢; exact hl)]
    exact (actAt_last ho F a0 i o t hi hd j hij (by omega)).symm
  · rw [hst.no t (fun i o hi hd => absurd ⟨i, o, hi, hd⟩ hx)]
    have h2 := actAt_still l F a0 t 0 j (fun i o _ _ hi hd => hx ⟨i, o, hi, hd⟩)
    rw [Nat.zero_add] at h2
    exact h2
theorem Stands.step {l : List Oper} {F : Nat → Value} {a0 a : Act} {listed : Array Bool} (ho : orderly l.toArray = true) (hst : Stands l F a0 listed a) (hsz : listed.size = l.length) {j : Nat} {oj : Oper} (hj : l[j]? = some oj) :
    Stands l F a0 (listed.setIfInBounds j true) (a.put oj.dst (F j)) := by
  have hjl : j < l.length := (List.getElem?_eq_some_iff.1 hj).1
  have hjl' : j < listed.size := by omega
  have hA : actAt l F a0 (j + 1) = (actAt l F a0 j).put oj.dst (F j) := by
    show (match l[j]? with | none => _ | some o => _) = _
    rw [hj]
  refine ⟨by rw [put_defers', hst.defers], by rw [put_size, hst.size], fun i o t hi hd hl => ?_, fun t hno => ?_⟩
  · by_cases hij : i = j
    · subst hij
      rw [hj] at hi
      injection hi with hi
      subst hi
      rw [actAt_last ho F a0 i oj t hj hd (i + 1) (by omega) (by omega), hA, hd]
      exact put_at (by rw [actAt_size, hst.size])
    · have hne : oj.dst ≠ some t := fun hd' => hij (orderly_once ho i j o oj t hi hj hd hd')
      rw [put_other _ _ _ _ hne]
      exact hst.yes i o t hi hd (by rw [getD_set_ne true (Ne.symm hij)] at hl; exact hl)
  · have hne : oj.dst ≠ some t := fun hd' => by
      have := hno j oj hj hd'
      simp [hjl'] at this
    rw [put_other _ _ _ _ hne]
    refine hst.no t fun i o hi hd => ?_
    have h1 := hno i o hi hd
    by_cases hij : i = j
    · subst hij; simp [hjl'] at h1
    · rw [getD_set_ne true (Ne.symm hij)] at h1; exact h1

/-- where the walk stands -/
structure FlockInv (P : Program) (W : World) (pr : Nat → Option Hv) (K : Act → World → Prop) (l : List Oper) (a0 : Act) (V : Nat → Value) (listed : Array Bool) (a : Act) (w : World) : Prop where
  size : listed.size = l.length
  cl : closedL l.toArray listed
  below : Below W.heap.size W w
  preds : ∀ j R, listed.getD j false = true → pr j = some R → R.R (V j) w
  oks : ∀ j R, pr j = some R → R.ok (V j)
  st : ∀ G, Good P l.toArray W pr K 0 [] l a0 G → (∀ j, listed.getD j false = true → (pr j).isSome = true → G j = V j) → Stands l G a0 listed a

theorem wpAny_flock {l : List Oper} {a0 : Act} (ho : orderly l.toArray = true) (hf : flock P l.toArray W pr (Q .normal) 0 [] l a0) :
    ∀ (fuel : Nat) (listed : Array Bool) (a : Act) (w : World) (V : Nat → Value), listed.toList.countP (· == false) = fuel → FlockInv P W pr (Q .normal) l a0 V listed a w → wpAny P .any l.toArray Q fuel listed a w := by
  have hsel := Region.noSelect_spec (ops := l.toArray) (by unfold orderly at ho; exact (Bool.and_eq_true _ _ ▸ ho).1)
  have good : ∀ V : Nat → Value, (∀ j R, pr j = some R → R.ok (V j)) → ∃ G : Nat → Value, (∀ j, (pr j).isSome = true → G j = V j) ∧ Good P l.toArray W pr (Q .normal) 0 [] l a0 G := fun V hok => by
    obtain ⟨G, h1, h2⟩ := flock_acts l 0 [] a0 hf V hok
    exact ⟨G, fun j hj => by have := h1 j (by rw [Nat.zero_add]; exact hj); rwa [Nat.zero_add] at this, h2⟩
  have done : ∀ (listed : Array Bool) (a : Act) (w : World) (V : Nat → Value), FlockInv P W pr (Q .normal) l a0 V listed a w → (∀ i, i < l.length → listed.getD i true = true) → Q .normal a w := fun listed a w V hI hall => by
    obtain ⟨G, h1, h2⟩ := good V hI.oks
    have hS := hI.st G h2 (fun j _ hj => h1 j hj)
    have hall' : ∀ i, i < l.length → listed.getD i false = true := fun i hi => by
      have := hall i hi
      have hil : i < listed.size := by rw [hI.size]; exact hi
      simp [hil] at this ⊢
      exact this
    rw [hS.all hall]
    refine h2.fin w hI.below (fun p hp => by cases hp) (fun i R hi hR => ?_)
    rw [Nat.zero_add] at hR
    rw [h1 i (by rw [hR]; rfl)]
    exact hI.preds i R (hall' i hi) hR
  intro fuel
  induction fuel with
  | zero =>
    intro listed a w V hc hI
    have hall : ∀ i, i < l.length → listed.getD i true = true := fun i hi => by
      rw [List.countP_eq_zero] at hc
      have hil : i < listed.size := by rw [hI.size]; exact hi
      have := hc listed[i] (by simp)
      simp [hil] at this ⊢
      exact this
    refine ⟨?_, done listed a w V hI hall⟩
    cases hr : Region.ready .any l.toArray listed with
    | nil => rfl
    | cons x xs =>
      have hm : x ∈ Region.ready .any l.toArray listed := by rw [hr]; exact List.mem_cons_self
      obtain ⟨h1, o, h2, _⟩ := mem_ready.1 hm
      rw [hall x (by have := (Array.getElem?_eq_some_iff.1 h2).1; simpa using this)] at h1
      cases h1
  | succ fuel ih =>
    intro listed a w V hc hI
    refine ⟨fun hr => done listed a w V hI (fun i hi => ready_none ho hr (by simpa using hI.size) i (by simpa using hi)), fun j hj => ?_⟩
    obtain ⟨hjun, oj, hoj, hdeps⟩ := mem_ready.1 hj
    have hlj : l[j]? = some oj := by simpa using hoj
    have hjl : j < l.length := (List.getElem?_eq_some_iff.1 hlj).1
    have hjl' : j < listed.size := by rw [hI.size]; exact hjl
    have hjf : listed[j] = false := by simpa [hjl'] using hjun
    have hjd : listed.getD j false = false := by simp [hjl', hjf]
    have hwl : ∀ i, waits l.toArray j i = true → listed.getD i false = true := fun i hi => waits_listed hI.cl hoj hdeps hi
    have hcnt : (listed.setIfInBounds j true).toList.countP (· == false) = fuel := by
      rw [Array.setIfInBounds, dif_pos hjl', Array.toList_set, List.countP_set (by simpa using hjl')]
      rw [hc]
      simp [hjf]
    have old : ∀ i, i ≠ j → (listed.setIfInBounds j true).getD i false = listed.getD i false := fun i hi => getD_set_ne false (Ne.symm hi)
    have hsl : ∀ cs b, oj.op ≠ .select cs b := fun cs b => hsel j oj cs b hoj
    obtain ⟨G, g1, g2⟩ := good V hI.oks
    have hS := hI.st G g2 (fun i _ hi => g1 i hi)
    have hpr : ∀ G' : Nat → Value, (∀ i, listed.getD i false = true → (pr i).isSome = true → G' i = V i) → ∀ i R, waits l.toArray j i = true → pr i = some R → R.R (G' i) w := fun G' hG' i R hi hR => by
      have hl := hwl i hi
      rw [hG' i hl (by rw [hR]; rfl)]
      exact hI.preds i R hl hR
    cases hp : pr j with
    | none =>
      have hy := YieldsIf.look hsl (g2.light j oj hlj (by rw [Nat.zero_add]; exact hp)) (hS.look ho hI.size hlj hdeps)
      have hSw : Below W.heap.size W w ∧ (∀ p ∈ ([] : List (Nat × (World → Prop))), waits l.toArray (0 + j) p.1 = true → p.2 w) ∧ ∀ i R, waits l.toArray (0 + j) (0 + i) = true → pr (0 + i) = some R → R.R (G i) w := by
        refine ⟨hI.below, fun p hp => (by cases hp), fun i R hi hR => ?_⟩
        rw [Nat.zero_add, Nat.zero_add] at hi
        rw [Nat.zero_add] at hR
        exact hpr G (fun i _ hi => g1 i hi) i R hi hR
      refine hy.wpOp hoj hSw ?_
      refine ih _ _ w V hcnt ⟨by simpa using hI.size, closedL_set hI.cl hoj hdeps, hI.below, fun i R hl hR => ?_, fun i R hR => ?_, fun G' hG' hV' => ?_⟩
      · have hij : i ≠ j := fun e => by rw [e, hp] at hR; cases hR
        rw [old i hij] at hl
        exact hI.preds i R hl hR
      · exact hI.oks i R hR
      · have hV : ∀ i, listed.getD i false = true → (pr i).isSome = true → G' i = V i := fun i hl hi => by
          have hij : i ≠ j := fun e => by rw [e, hp] at hi; cases hi
          exact hV' i (by rw [old i hij]; exact hl) hi
        have hS' := hI.st G' hG' hV
        have hy' := YieldsIf.look hsl (hG'.light j oj hlj (by rw [Nat.zero_add]; exact hp)) (hS'.look ho hI.size hlj hdeps)
        have hSw' : Below W.heap.size W w ∧ (∀ p ∈ ([] : List (Nat × (World → Prop))), waits l.toArray (0 + j) p.1 = true → p.2 w) ∧ ∀ i R, waits l.toArray (0 + j) (0 + i) = true → pr (0 + i) = some R → R.R (G' i) w := by
          refine ⟨hI.below, fun p hp => (by cases hp), fun i R hi hR => ?_⟩
          rw [Nat.zero_add, Nat.zero_add] at hi
          rw [Nat.zero_add] at hR
          exact hpr G' hV i R hi hR
        rw [YieldsIf.one hy hy' hSw hSw']
        exact hS'.step ho hI.size hlj
    | some R =>
      refine heavy_wpOp hoj hsl (g2.heavy j oj R hlj (by rw [Nat.zero_add]; exact hp) w hI.below (fun p hp => by cases hp) (fun i R' hi hR' => ?_)) (hS.look ho hI.size hlj hdeps) (by rw [actAt_size, hS.size]) (fun v w' hb hv => ?_)
      · rw [Nat.zero_add, Nat.zero_add] at hi
        rw [Nat.zero_add] at hR'
        exact hpr G (fun i _ hi => g1 i hi) i R' hi hR'
      · refine ih _ _ w' (fun i => if i = j then v else V i) hcnt ⟨by simpa using hI.size, closedL_set hI.cl hoj hdeps, hI.below.trans (hb.mono hI.below.size), fun i R' hl hR' => ?_, fun i R' hR' => ?_, fun G' hG' hV' => ?_⟩
        · by_cases hij : i = j
          · subst hij
            rw [hp] at hR'
            injection hR' with hR'
            subst hR'
            rw [if_pos rfl]
            exact hv
          · rw [if_neg hij]
            rw [old i hij] at hl
            exact R'.stay _ w w' hb (hI.preds i R' hl hR')
        · by_cases hij : i = j
          · subst hij
            rw [hp] at hR'
            injection hR' with hR'
            subst hR'
            show R.ok (if i = i then v else V i)
            rw [if_pos rfl]
            exact R.imp _ _ hv
          · show R'.ok (if i = j then v else V i)
            rw [if_neg hij]
            exact hI.oks i R' hR'
        · have hV : ∀ i, listed.getD i false = true → (pr i).isSome = true → G' i = V i := fun i hl hi => by
            have hij : i ≠ j := fun e => by rw [e, hjd] at hl; cases hl
            have := hV' i (by rw [old i hij]; exact hl) hi
            rwa [if_neg hij] at this
          have hS' := hI.st G' hG' hV
          have hGj := hV' j (by simp [hjl']) (by rw [hp]; rfl)
          rw [if_pos rfl] at hGj
          rw [← hGj]
          exact hS'.step ho hI.size hlj
theorem flock_start {l : List Oper} {a : Act} {w : World} (hf : flock P l.toArray w pr (Q .normal) 0 [] l a) (ho : orderly l.toArray = true) :
    wpAny P .any l.toArray Q l.toArray.size (Array.replicate l.toArray.size false) a w := by
  have hV : ∃ V : Nat → Value, ∀ j R, pr j = some R → R.ok (V j) := ⟨fun j => match pr j with | none => undef | some R => Classical.choose R.dum, fun j R hR => by simp only [hR]; exact Classical.choose_spec R.dum⟩
  obtain ⟨V, hV⟩ := hV
  refine wpAny_flock ho hf _ _ a _ V (by simp [List.countP_replicate]) ⟨by simp, fun j oj _ hl => ?_, Below.refl _ _, fun j R hl => ?_, hV, fun G hG _ => ⟨rfl, rfl, fun i o t hi _ hl => ?_, fun _ _ => rfl⟩⟩
  · simp [Array.getD_eq_getD_getElem?, Array.getElem?_replicate] at hl
    split at hl <;> simp at hl
  · simp [Array.getD_eq_getD_getElem?, Array.getElem?_replicate] at hl
    split at hl <;> simp at hl
  · have : i < l.length := (List.getElem?_eq_some_iff.1 hi).1
    simp [this] at hl
/-- **a drawn region, walked once in the order of its text** -/
theorem wp_region_flock {id : Nat} {l : List Oper} {a : Act} {w : World} (pr : Nat → Option Hv) (hm : P.follows .mixedOrders = true) (ho : orderly l.toArray = true)
    (hf : flock P l.toArray w.drew pr (Q .normal) 0 [] l a) : (Code.region id l.toArray true).wp P Q a w :=
  wp_region_any hm (flock_start hf ho)
/-- operation p is the last one, and waits for all others; no guard looks at it -/
def lastIn (ops : Array Oper) (p : Nat) : Bool :=
  decide (p + 1 = ops.size) && (List.range p).all fun k => waits ops p k && match ops[k]? with
    | some o => o.after.all (fun e => decide (e.on < p)) && match o.guard with
      | some (g, _) => decide (g < p)
      | none => true
    | none => true
structure LW (ops : Array Oper) (p : Nat) : Prop where
  size : p + 1 = ops.size
  all : ∀ k, k < p → waits ops p k = true
  deps : ∀ k o, k < p → ops[k]? = some o → (∀ e ∈ o.after, e.on < p) ∧ ∀ g b, o.guard = some (g, b) → g < p
theorem lastIn_spec {p : Nat} (h : lastIn ops p = true) : LW ops p := by
  unfold lastIn at h
  rw [Bool.and_eq_true, decide_eq_true_eq, List.all_eq_true] at h
  refine ⟨h.1, fun k hk => ?_, fun k o hk ho => ?_⟩
  · have := h.2 k (List.mem_range.2 hk)
    rw [Bool.and_eq_true] at this
    exact this.1
  · have := h.2 k (List.mem_range.2 hk)
    rw [Bool.and_eq_true] at this
    have h2 := this.2
    rw [ho] at h2
    simp only [Bool.and_eq_true, Array.all_eq_true_iff_forall_mem, decide_eq_true_eq] at h2
    refine ⟨h2.1, fun g b hg => ?_⟩
    have h3 := h2.2
    rw [hg] at h3
    simpa using h3
theorem LW.ready {p : Nat} (h : LW ops p) {listed : Array Bool} (hsz : listed.size = ops.size) {i : Nat} (hi : i < p) : i ∈ Region.ready .any ops listed ↔ i ∈ Region.ready .any ops.pop listed.pop := by
  obtain ⟨hp, _, hs⟩ := h
  have hg : ∀ k b, k < p → listed.pop.getD k b = listed.getD k b := fun k b hk => by
    have h1 : k < listed.size := by omega
    have h2 : k < listed.size - 1 := by omega
    simp [Array.getD_eq_getD_getElem?, Array.getElem?_pop, h1, h2]
  rw [mem_ready, mem_ready, pop_get hp hi, hg i true hi]
  constructor
  · rintro ⟨h1, o, h2, h3⟩
    exact ⟨h1, o, h2, fun e he hb => by rw [hg e.on false ((hs i o hi h2).1 e he)]; exact h3 e he hb⟩
  · rintro ⟨h1, o, h2, h3⟩
    exact ⟨h1, o, h2, fun e he hb => by have := h3 e he hb; rwa [hg e.on false ((hs i o hi h2).1 e he)] at this⟩
theorem LW.wpOp {p i : Nat} (h : LW ops p) (hi : i < p) {Z K : Act → World → Prop} {a : Act} {w : World} (hh : wpOp P ops.pop (onNormal Z Q) i K a w) : wpOp P ops Q i K a w := by
  obtain ⟨hp, _, hs⟩ := h
  unfold Go.wpOp at *
  rw [pop_get hp hi] at hh
  cases ho : ops[i]? with
  | none => rw [ho] at hh; exact hh
  | some o =>
    rw [ho] at hh
    simp only at hh ⊢
    rw [wanted_pop hp (hs i o hi ho).2] at hh
    split
    · rename_i hw
      rw [if_pos hw] at hh
      refine hh.imp (fun h => ?_) (fun h => ⟨h.1, ?_⟩)
      · unfold Oper.wp at *
        generalize (execOp a.eval o).run P w = r at *
        cases r with
        | ok n w' =>
          cases n <;> simp only [Oper.upon] at h ⊢ <;> exact h
        | halt x w' => cases x <;> simp only [Oper.upon] at h ⊢ <;> exact h
      · obtain ⟨a', w', h2⟩ := h.2
        exact ⟨a', w', h2⟩
    · rename_i hw
      rw [if_neg hw] at hh
      exact hh
theorem LW.wpAny {p : Nat} (h : LW ops p) (ho : orderly ops = true) :
    ∀ (fuel : Nat) (listed : Array Bool) (a : Act) (w : World), listed.size = ops.size → closedL ops listed → listed.getD p true = false →
    wpAny P .any ops.pop (onNormal (fun a' w' => Go.wpOp P ops Q p (fun a2 w2 => Q .normal a2 w2) a' w') Q) fuel listed.pop a w → wpAny P .any ops Q (fuel + 1) listed a w := by
  have hp := h.size
  have hall : ∀ (listed : Array Bool) (o : Oper), listed.size = ops.size → closedL ops listed → ops[p]? = some o → (∀ e ∈ o.after, Region.binds .any e = true → listed.getD e.on false = true) → ∀ k, k < ops.size → (listed.setIfInBounds p true).getD k true = true := fun listed o hsz hcl h2 h3 k hk => by
    by_cases hki : k = p
    · subst hki
      have : k < listed.size := by omega
      simp [this]
    · rw [getD_set_ne true (fun e => hki e.symm)]
      have hks : k < listed.size := by omega
      rw [show listed.getD k true = listed.getD k false by simp [hks]]
      exact waits_listed hcl h2 h3 (h.all k (by omega))
  have none_ : ∀ (listed : Array Bool), (∀ k, k < ops.size → listed.getD k true = true) → Region.ready .any ops listed = [] := fun listed hl => by
    cases hr : Region.ready .any ops listed with
    | nil => rfl
    | cons x xs =>
      have hm : x ∈ Region.ready .any ops listed := by rw [hr]; exact List.mem_cons_self
      obtain ⟨g1, g2, g3, _⟩ := mem_ready.1 hm
      rw [hl x (Array.getElem?_eq_some_iff.1 g3).1] at g1
      cases g1
  intro fuel
  induction fuel with
  | zero =>
    intro listed a w hsz hcl hl H
    refine ⟨fun hr => ?_, fun i hi => ?_⟩
    · have := ready_none ho hr hsz p (by omega)
      rw [this] at hl; cases hl
    · have hir := hi
      obtain ⟨h1, o, h2, h3⟩ := mem_ready.1 hi
      have hil : i < ops.size := (Array.getElem?_eq_some_iff.1 h2).1
      by_cases hip : i = p
      · subst hip
        exact wpOp_mono (fun a' w' hQ => ⟨none_ _ (hall listed o hsz hcl h2 h3), hQ⟩) H.2
      · have := (h.ready hsz (by omega : i < p)).1 hir
        rw [H.1] at this
        cases this
  | succ fuel ih =>
    intro listed a w hsz hcl hl H
    refine ⟨fun hr => ?_, fun i hi => ?_⟩
    · have := ready_none ho hr hsz p (by omega)
      rw [this] at hl; cases hl
    · have hir := hi
      obtain ⟨h1, o, h2, h3⟩ := mem_ready.1 hi
      have hil : i < ops.size := (Array.getElem?_eq_some_iff.1 h2).1
      by_cases hip : i = p
      · subst hip
        have hA := hall listed o hsz hcl h2 h3
        have hnil := none_ _ hA
        have hpn : Region.ready .any ops.pop listed.pop = [] := by
          cases hr : Region.ready .any ops.pop listed.pop with
          | nil => rfl
          | cons x xs =>
            have hm : x ∈ Region.ready .any ops.pop listed.pop := by rw [hr]; exact List.mem_cons_self
            obtain ⟨g1, g2, g3, _⟩ := mem_ready.1 hm
            have hx : x < i := by
              have := (Array.getElem?_eq_some_iff.1 g3).1
              simp at this
              omega
            obtain ⟨g1', _⟩ := mem_ready.1 ((h.ready hsz hx).2 hm)
            have := hA x (by omega)
            rw [getD_set_ne true (by omega)] at this
            rw [this] at g1'
            cases g1'
        exact wpOp_mono (fun a' w' hQ => ⟨fun _ => hQ, by rw [hnil]; simp⟩) (H.1 hpn)
      · have hlt : i < p := by omega
        have h4 := H.2 i ((h.ready hsz hlt).1 hir)
        refine wpOp_mono (fun a' w' h5 => ?_) (h.wpOp hlt h4)
        refine ih (listed.setIfInBounds i true) a' w' (by simpa using hsz) (closedL_set hcl h2 h3) ?_ ?_
        · rw [getD_set_ne true hip]; exact hl
        · rw [pop_set (by omega) hlt]; exact h5
theorem wpList_pop {p : Nat} (h : LW ops p) {o : Oper} (ho : ops[p]? = some o) : ∀ (ts : List Oper), (∀ x ∈ ts, ∀ g b, x.guard = some (g, b) → g < p) → ∀ a w, wpList P ops Q (ts ++ [o]) a w →
    wpList P ops.pop (onNormal (fun a' w' => Go.wpOp P ops Q p (fun a2 w2 => Q .normal a2 w2) a' w') Q) ts a w
  | [], _, a, w, hh => last_op ho hh
  | t :: ts, hg, a, w, hh => by
    have ih := wpList_pop h ho ts (fun x hx => hg x (List.mem_cons_of_mem _ hx))
    rw [List.cons_append] at hh
    unfold wpList at hh ⊢
    rw [wanted_pop h.size (hg t List.mem_cons_self)]
    split
    · rename_i hw
      rw [if_pos hw] at hh
      refine hh.imp (fun h => ?_) (fun h => ⟨h.1, ?_⟩)
      · unfold Oper.wp at *
        generalize (execOp a.eval t).run P w = r at *
        cases r with
        | ok n w' =>
          cases n <;> simp only [Oper.upon] at h ⊢
          case value u => exact ih _ _ h
          case skip => exact ih _ _ h
          case defer d => exact ih _ _ h
          case enter f args =>
            refine Calls.mono h fun e w'' he => ?_
            cases e with
            | returned u => exact ih _ _ he
            | panicked c => exact he
            | outgrown => obtain ⟨a', w', h2⟩ := he; exact ⟨a', w', h2⟩
          case row row args => exact Rows.mono h fun u w'' he => ih _ _ he
        | halt x w' => cases x <;> simp only [Oper.upon] at h ⊢ <;> exact h
      · obtain ⟨a', w', h2⟩ := h.2
        exact ⟨a', w', h2⟩
    · rename_i hw
      rw [if_neg hw] at hh
      exact ih _ _ hh
theorem tail_up (l : List Oper) : ∀ (n : Nat) (ts : List Oper) (Q : Exit → Act → World → Prop), ts.length = n → (∀ i, i < ts.length → lastIn (l ++ ts.take (i + 1)).toArray (l.length + i) = true) → (∀ i, i ≤ ts.length → orderly (l ++ ts.take i).toArray = true) →
    ∃ Qh : Exit → Act → World → Prop, (∀ a w, wpList P (l ++ ts).toArray Q ts a w → Qh .normal a w) ∧ ∀ fuel a w, wpAny P .any l.toArray Qh fuel (Array.replicate l.length false) a w → wpAny P .any (l ++ ts).toArray Q (fuel + ts.length) (Array.replicate (l ++ ts).length false) a w
  | 0, ts, Q, hn, _, _ => by
    have : ts = [] := List.eq_nil_of_length_eq_zero hn
    subst this
    exact ⟨Q, fun a w h => h, fun fuel a w h => by simpa using h⟩
  | n + 1, ts, Q, hn, hl, ho => by
    have hne : ts ≠ [] := fun e => by rw [e] at hn; cases hn
    obtain ⟨ts', o, rfl⟩ : ∃ ts' o, ts = ts' ++ [o] := ⟨_, _, (List.dropLast_concat_getLast hne).symm⟩
    have hlen : ts'.length = n := by simpa using hn
    have hfull : l ++ (ts' ++ [o]).take (ts'.length + 1) = l ++ (ts' ++ [o]) := by rw [List.take_of_length_le (by simp)]
    have hlast := lastIn_spec (hl ts'.length (by simp))
    rw [hfull] at hlast
    have hor := ho (ts'.length + 1) (by simp)
    rw [hfull] at hor
    have htk : ∀ i, i ≤ ts'.length → (ts' ++ [o]).take i = ts'.take i := fun i hi => by rw [List.take_append_of_le_length hi]
    have hpop : (l ++ (ts' ++ [o])).toArray.pop = (l ++ ts').toArray := by
      rw [← List.append_assoc]
      simp
    obtain ⟨Qh, h1, h2⟩ := tail_up l n ts' (onNormal (fun a' w' => Go.wpOp P (l ++ (ts' ++ [o])).toArray Q (l.length + ts'.length) (fun a2 w2 => Q .normal a2 w2) a' w') Q) hlen
      (fun i hi => by have := hl i (by simp; omega); rwa [htk (i + 1) (by omega)] at this) (fun i hi => by have := ho i (by simp; omega); rwa [htk i hi] at this)
    refine ⟨Qh, fun a w h => h1 a w ?_, fun fuel a w h => ?_⟩
    · have := wpList_pop hlast (o := o) (by simp) ts' (fun x hx g b hg => by
        obtain ⟨k, hk, rfl⟩ := List.getElem_of_mem hx
        exact (hlast.deps (l.length + k) ts'[k] (by omega) (by
          rw [List.getElem?_toArray, List.getElem?_append_right (by omega), List.getElem?_append_left (by omega)]
          simp [hk])).2 g b hg) a w h
      rwa [hpop] at this
    · have h3 := h2 fuel a w h
      have h4 := hlast.wpAny hor (fuel + ts'.length) (Array.replicate (l ++ (ts' ++ [o])).length false) a w (by simp) (fun j oj _ hl => by
        simp [Array.getD_eq_getD_getElem?, Array.getElem?_replicate] at hl
        split at hl <;> simp at hl) (by simp) (by
          rw [hpop]
          have e : (Array.replicate (l ++ (ts' ++ [o])).length false).pop = Array.replicate (l ++ ts').length false := by
            apply Array.ext_getElem?
            intro k
            simp [Array.getElem?_pop, Array.getElem?_replicate]
          rw [e]
          exact h3)
      rw [List.length_append, List.length_singleton, ← Nat.add_assoc]
      exact h4
/-- **the same, but for the operations from number n on**, each of which waits for all ahead of it, and may do what it will -/
theorem wp_region_flock_tail {id : Nat} {ls : List Oper} {a : Act} {w : World} (n : Nat) (pr : Nat → Option Hv) (hm : P.follows .mixedOrders = true)
    (hl : ((List.range (ls.length - n)).all fun i => lastIn (ls.take (n + (i + 1))).toArray (n + i) && orderly (ls.take (n + (i + 1))).toArray) = true) (hn : decide (n ≤ ls.length) = true) (ho : orderly (ls.take n).toArray = true)
    (hf : flock P (ls.take n).toArray w.drew pr (fun a' w' => wpList P ls.toArray Q (ls.drop n) a' w') 0 [] (ls.take n) a) : (Code.region id ls.toArray true).wp P Q a w := by
  have hn := of_decide_eq_true hn
  rw [List.all_eq_true] at hl
  have hln : (ls.take n).length = n := by rw [List.length_take]; omega
  have htk : ∀ i, ls.take n ++ (ls.drop n).take i = ls.take (n + i) := fun i => by rw [List.take_add]
  have htd : ls.take n ++ ls.drop n = ls := List.take_append_drop n ls
  refine wp_region_any hm ?_
  obtain ⟨Qh, h1, h2⟩ := tail_up (P := P) (ls.take n) _ (ls.drop n) Q rfl (fun i hi => by
      have := hl i (List.mem_range.2 (by simpa using hi))
      rw [Bool.and_eq_true] at this
      rw [htk, hln]
      exact this.1) (fun i hi => by
      cases i with
      | zero => simpa using ho
      | succ i =>
        have := hl i (List.mem_range.2 (by simp at hi; omega))
        rw [Bool.and_eq_true] at this
        rw [htk]
        exact this.2)
  rw [htd] at h1 h2
  have H := flock_start (Q := Qh) (l := ls.take n) (a := a) (w := w.drew) (pr := pr) (flock_mono h1 _ 0 [] a hf) ho
  have h3 := h2 (ls.take n).length a w.drew (by
    simp only [List.size_toArray] at H
    exact H)
  have e : (ls.take n).length + (ls.drop n).length = ls.toArray.size := by simp; omega
  rw [e] at h3
  exact h3
/-- as wp_region_last, where the last operation waits for all others by however many steps -/
theorem wp_region_lastT {id : Nat} {a : Act} {w : World} {S : World → Prop} (order : List (Nat × Bool)) (p : Nat) (hm : P.follows .mixedOrders = true) (hs : Region.noSelect ops.pop = true) (h : lastIn ops p = true) (hy : orderly ops = true)
    (ho : ordered ops.pop order (Array.replicate ops.pop.size false) = true) (hl : decide (order.length ≤ ops.pop.size) = true) (hS : S w.drew)
    (ht : trail P ops.pop (onNormal (fun a' w' => wpOp P ops Q p (fun a2 w2 => Q .normal a2 w2) a' w') Q) S order a w.drew) : (Code.region id ops true).wp P Q a w := by
  have hp := (lastIn_spec h).size
  refine wp_region_any hm ?_
  have H := trail_wpAnyH hs order ops.pop.size (Array.replicate ops.pop.size false) a w.drew (of_decide_eq_true hl) ho hS ht
  have e : (Array.replicate ops.size false).pop = Array.replicate ops.pop.size false := by
    apply Array.ext_getElem?
    intro k
    simp [Array.getElem?_pop, Array.getElem?_replicate]
  have h1 := (lastIn_spec h).wpAny hy ops.pop.size (Array.replicate ops.size false) a w.drew (by simp) (fun j oj _ hl => by
    simp [Array.getD_eq_getD_getElem?, Array.getElem?_replicate] at hl
    split at hl <;> simp at hl) (by
    have : p < ops.size := by omega
    simp [this]) (by rw [e]; exact wpAny_of_held _ _ _ _ H)
  have e2 : ops.pop.size + 1 = ops.size := by simp; omega
  rw [e2] at h1
  exact h1
end
end Go.Proofs.YtpbflgemhcaooaaDoor
