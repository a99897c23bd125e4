import Derived.Test.YtpbflgemhcaooaaDoorChain
import Derived.StillTail
/- A drawn region with one store: the operations for which the store waits see the world ahead of it; the few others do the same in both. -/
namespace Go.Proofs.YtpbflgemhcaooaaDoor
open Go.RowKit
section
variable {P : Program} {ops : Array Oper} {S0 S1 : World → Prop} {Q : Exit → Act → World → Prop}

theorem look_wpOp {S' : World → Prop} {j : Nat} {o : Oper} {A A1 a : Act} {K : Act → World → Prop} {v : Value} {w : World} (hj : ops[j]? = some o) (hs : ∀ cs b, o.op ≠ .select cs b)
    (h1 : wpList P ops (settled S' A1) [o] A w) (hA : A1 = A.put o.dst v) (hlook : ∀ t ∈ o.looksAt ops, A.tmps[t]? = a.tmps[t]?) (hsz : A.tmps.size = a.tmps.size)
    (hK : ∀ w', S' w' → K (a.put o.dst v) w') : wpOp P ops Q j K a w := by
  obtain ⟨he, hw⟩ := look_congr o hs A a hlook
  unfold wpOp
  simp only [hj]
  unfold wpList at h1
  rw [hw] at h1
  split
  · rename_i hwt
    rw [if_pos hwt] at h1
    refine .inl ?_
    rcases h1 with h1 | ⟨_, a', w', h1, _⟩
    case inr => cases h1
    unfold Oper.wp at *
    rw [he] at h1
    have fin : ∀ u w', wpList P ops (settled S' A1) [] (A.put o.dst u) w' → K (a.put o.dst u) w' := fun u w' h2 => by
      obtain ⟨_, h3, h4⟩ := h2
      rw [hA] at h3
      rw [put_same h3 hsz]
      exact hK w' h4
    generalize (execOp a.eval o).run P w = r at *
    cases r with
    | ok n w' =>
      cases n <;> simp only [Oper.upon] at h1 ⊢
      case value u => exact fin u w' h1
      case skip => exact fin undef w' h1
      case defer d =>
        obtain ⟨_, h3, _⟩ := h1
        rw [hA] at h3
        have := congrArg Act.defers h3
        rw [put_defers', put_defers'] at this
        exact absurd (congrArg List.length this) (by simp)
      case enter f args =>
        refine Calls.mono h1 fun e w'' he => ?_
        cases e with
        | returned u => exact fin u w'' he
        | panicked c => exact absurd he.1 (by simp)
        | outgrown => obtain ⟨a', w', h2, _⟩ := he; cases h2
      case row row args => exact Rows.mono h1 fun u w'' he => fin u w'' he
    | halt x w' =>
      cases x <;> simp only [Oper.upon] at h1 ⊢
      case panic u => exact absurd h1.1 (by simp)
  · rename_i hwt
    rw [if_neg hwt] at h1
    obtain ⟨_, h3, h4⟩ := h1
    rw [hA] at h3
    rw [put_same h3 hsz]
    exact hK w h4

/-- the store waits for all but these, and nobody waits for it -/
def storesLast (ops : Array Oper) (p : Nat) (fr : List Nat) : Bool :=
  (List.range ops.size).all fun k => k == p || ((Region.waitsFor .any ops p k || fr.contains k) && !Region.waitsFor .any ops k p)
theorem storesLast_spec {p : Nat} {fr : List Nat} (h : storesLast ops p fr = true) {k : Nat} (hk : k < ops.size) (hn : k ≠ p) : (Region.waitsFor .any ops p k = true ∨ k ∈ fr) := by
  unfold storesLast at h
  rw [List.all_eq_true] at h
  have := h k (List.mem_range.2 hk)
  simp only [Bool.or_eq_true, beq_iff_eq, Bool.and_eq_true, List.contains_eq_mem, decide_eq_true_eq] at this
  exact (this.resolve_left hn).1
/-- what an operation does, ahead of the store, and behind it -/
structure doesAt (P : Program) (ops : Array Oper) (S0 S1 : World → Prop) (p : Nat) (fr : List Nat) (k : Nat) (o : Oper) (a a1 : Act) : Prop where
  pre : k ≠ p → does1 P ops S0 o a a1
  post : k ≠ p → k ∈ fr → does1 P ops S1 o a a1
  store : k = p → ∀ w, S0 w → wpList P ops (settled S1 a1) [o] a w
/-- which of the two it is, by what is listed -/
structure Phase (ops : Array Oper) (S0 S1 : World → Prop) (p : Nat) (listed : Array Bool) (w : World) : Prop where
  pre : listed.getD p true = false → S0 w
  post : listed.getD p true = true → S1 w
  closed : listed.getD p true = true → ∀ k, Region.waitsFor .any ops p k = true → listed.getD k false = true
theorem Phase.last {p : Nat} {listed : Array Bool} {w : World} (h : Phase ops S0 S1 p listed w) (hl : listed.getD p true = true) : S1 w := h.post hl
theorem getD_true_false {listed : Array Bool} {k : Nat} (hk : k < listed.size) : listed.getD k true = listed.getD k false := by simp [hk]
theorem Phase.next {p : Nat} {fr : List Nat} {listed : Array Bool} {w : World} {j : Nat} {o : Oper} {a a1 : Act} (h : Phase ops S0 S1 p listed w) (hsz : listed.size = ops.size) (hfr : storesLast ops p fr = true) (hj : j ∈ Region.ready .any ops listed)
    (hd : doesAt P ops S0 S1 p fr j o a a1) : ∃ S' : World → Prop, wpList P ops (settled S' a1) [o] a w ∧ ∀ w', S' w' → Phase ops S0 S1 p (listed.setIfInBounds j true) w' := by
  obtain ⟨hjun, oj, hoj, hdeps⟩ := mem_ready.1 hj
  have hjs : j < listed.size := by rw [hsz]; exact (Array.getElem?_eq_some_iff.1 hoj).1
  have keep : ∀ k, listed.getD k false = true → (listed.setIfInBounds j true).getD k false = true := fun k hk => by
    by_cases hkj : k = j
    · subst hkj; simp [hjs]
    · rw [getD_set_ne false (fun e => hkj e.symm)]; exact hk
  by_cases hjp : j = p
  · subst hjp
    refine ⟨S1, hd.store rfl w (h.pre hjun), fun w' hw => ⟨fun e => ?_, fun _ => hw, fun _ k hk => ?_⟩⟩
    · simp [hjs] at e
    · obtain ⟨o', ho', e, he, hb, hek⟩ := Region.waitsFor_spec hk
      rw [hoj] at ho'
      injection ho' with ho'
      subst ho'
      have := hdeps e he hb
      rw [hek] at this
      exact keep k this
  · have hpe : (listed.setIfInBounds j true).getD p true = listed.getD p true := getD_set_ne true hjp
    cases hp : listed.getD p true with
    | false => exact ⟨S0, hd.pre hjp w (h.pre hp), fun w' hw => ⟨fun _ => hw, fun e => (by rw [hpe, hp] at e; cases e), fun e => (by rw [hpe, hp] at e; cases e)⟩⟩
    | true =>
      have hjo : j < ops.size := by omega
      rcases storesLast_spec hfr hjo hjp with hw | hm
      · have := h.closed hp j hw
        rw [getD_true_false hjs, this] at hjun
        cases hjun
      · exact ⟨S1, hd.post hjp hm w (h.post hp), fun w' hw => ⟨fun e => (by rw [hpe, hp] at e; cases e), fun _ => hw, fun _ k hk => keep k (h.closed hp k hk)⟩⟩
theorem wpAny_store {p : Nat} {fr : List Nat} {l : List Oper} {F : Nat → Value} {a0 : Act} (ho : orderly l.toArray = true)
    (hp : p < l.length) (hfr : storesLast l.toArray p fr = true) (hF : ∀ k o, l[k]? = some o → doesAt P l.toArray S0 S1 p fr k o (actAt l F a0 k) (actAt l F a0 (k + 1)))
    (hK : ∀ w, S1 w → Q .normal (actAt l F a0 l.length) w) :
    ∀ (fuel : Nat) (listed : Array Bool) (a : Act) (w : World), listed.size = l.length → (listed.toList.countP (· == false)) = fuel → Stands l F a0 listed a → Phase l.toArray S0 S1 p listed w → wpAny P .any l.toArray Q fuel listed a w := by
  have hsel := Region.noSelect_spec (ops := l.toArray) (by unfold orderly at ho; exact (Bool.and_eq_true _ _ ▸ ho).1)
  have wr : ∀ (i j : Nat) (o o' : Oper) (t : Tmp), l[i]? = some o → l[j]? = some o' → o.dst = some t → o'.dst = some t → i = j := fun i j o o' t hi hj h1 h2 => by
    rcases Nat.lt_trichotomy i j with h | h | h
    · exact absurd h2 (((orderly_spec ho (j := j) (oj := o') (by simpa using hj)).2 i o t (by simpa using hi) h1).1 (by omega))
    · exact h
    · exact absurd h2 (((orderly_spec ho (j := j) (oj := o') (by simpa using hj)).2 i o t (by simpa using hi) h1).1 (by omega))
  have done : ∀ (listed : Array Bool) (a : Act) (w : World), listed.size = l.length → (∀ i, i < l.length → listed.getD i true = true) → Stands l F a0 listed a → S1 w → Q .normal a w := fun listed a w hsz hall hst hS => by
    have : a = actAt l F a0 l.length := by
      have e1 : a.tmps = (actAt l F a0 l.length).tmps := by
        have pt : ∀ t : Nat, a.tmps[t]? = (actAt l F a0 l.length).tmps[t]? := fun t => by
          by_cases hx : ∃ (i : Nat) (o : Oper), l[i]? = some o ∧ o.dst = some t
          · obtain ⟨i, o, hi, hd⟩ := hx
            exact hst.yes i o t hi hd (hall i (List.getElem?_eq_some_iff.1 hi).1)
          · have h1 := hst.no t (fun i o hi hd => absurd ⟨i, o, hi, hd⟩ hx)
            have h2 := actAt_still l F a0 t 0 l.length (fun i o _ _ hi hd => hx ⟨i, o, hi, hd⟩)
            rw [Nat.zero_add] at h2
            rw [h1, h2]
            rfl
        apply Array.ext_getElem?
        intro t
        exact pt t
      have e2 : a.defers = (actAt l F a0 l.length).defers := by rw [hst.defers, actAt_defers]
      cases a
      simp only at e1 e2
      rw [e1, e2]
    rw [this]
    exact hK w hS
  intro fuel
  induction fuel with
  | zero =>
    intro listed a w hsz hc hst hS
    have hall : ∀ i, i < l.length → listed.getD i true = true := fun i hi => by
      rw [List.countP_eq_zero] at hc
      have hil : i < listed.size := by omega
      have := hc listed[i] (by simp)
      simp [hil] at this ⊢
      exact this
    refine ⟨?_, done listed a w hsz hall hst (hS.last (hall p hp))⟩
    cases hr : Region.ready .any l.toArray listed with
    | nil => rfl
    | cons x xs =>
      have hm : x ∈ Region.ready .any l.toArray listed := by rw [hr]; exact List.mem_cons_self
      obtain ⟨h1, o, h2, _⟩ := mem_ready.1 hm
      rw [hall x (by have := (Array.getElem?_eq_some_iff.1 h2).1; simpa using this)] at h1
      cases h1
  | succ fuel ih =>
    intro listed a w hsz hc hst hS
    refine ⟨fun hr => done listed a w hsz (fun i hi => ready_none ho hr (by simpa using hsz) i (by simpa using hi)) hst (hS.last (ready_none ho hr (by simpa using hsz) p (by simpa using hp))), fun j hj => ?_⟩
    obtain ⟨hjun, oj, hoj, hdeps⟩ := mem_ready.1 hj
    have hlj : l[j]? = some oj := by simpa using hoj
    have hjl : j < l.length := (List.getElem?_eq_some_iff.1 hlj).1
    have hA : actAt l F a0 (j + 1) = (actAt l F a0 j).put oj.dst (F j) := by
      show (match l[j]? with | none => _ | some o => _) = _
      rw [hlj]
    obtain ⟨hlt, hsp⟩ := orderly_spec ho hoj
    have still : ∀ (i : Nat) (o : Oper) (t : Tmp), l[i]? = some o → o.dst = some t → ∀ k, i < k → k ≤ l.length → (actAt l F a0 l.length).tmps[t]? = (actAt l F a0 k).tmps[t]? := fun i o t hi hd k hk hkl => by
      have := actAt_still l F a0 t k (l.length - k) (fun i' o' h1 _ h3 h4 => by have := wr i i' o o' t hi h3 hd h4; omega)
      rw [← this, show k + (l.length - k) = l.length from by omega]
    obtain ⟨S', hstep, hS2⟩ := hS.next (by simpa using hsz) hfr hj (hF j oj hlj)
    refine look_wpOp (S' := S') hoj (fun cs b => hsel j oj cs b hoj) hstep hA (fun t ht => ?_) (by rw [actAt_size, hst.size]) (fun w' hS' => ?_)
    · by_cases hx : ∃ (i : Nat) (o : Oper), l[i]? = some o ∧ o.dst = some t
      · obtain ⟨i, o, hi, hd⟩ := hx
        obtain ⟨e, he, heq, hb⟩ := (hsp i o t (by simpa using hi) hd).2 ht
        have hl := hdeps e he hb
        rw [heq] at hl
        have hij : i < j := by have := hlt e he hb; omega
        have hil : i < listed.size := by omega
        rw [hst.yes i o t hi hd (by simp [hil] at hl ⊢; exact hl)]
        exact (still i o t hi hd j hij (by omega)).symm
      · rw [hst.no t (fun i o hi hd => absurd ⟨i, o, hi, hd⟩ hx)]
        have h2 := actAt_still l F a0 t 0 j (fun i o _ _ hi hd => hx ⟨i, o, hi, hd⟩)
        rw [Nat.zero_add] at h2
        exact h2
    · have hjl' : j < listed.size := by omega
      have hjf : listed[j] = false := by simpa [hjl'] using hjun
      refine ih (listed.setIfInBounds j true) _ w' (by simpa using hsz) ?_ ⟨by rw [put_defers', hst.defers], by rw [put_size, hst.size], fun i o t hi hd hl => ?_, fun t hno => ?_⟩ (hS2 w' hS')
      · rw [Array.setIfInBounds, dif_pos hjl', Array.toList_set, List.countP_set (by simpa using hjl')]
        rw [hc]
        simp [hjf]
      · by_cases hij : i = j
        · subst hij
          rw [hlj] at hi
          injection hi with hi
          subst hi
          rw [still i oj t hlj hd (i + 1) (by omega) (by omega), hA, hd]
          exact put_at (by rw [actAt_size, hst.size])
        · have hne : oj.dst ≠ some t := fun hd' => hij (wr i j o oj t hi hlj hd hd')
          rw [put_other _ _ _ _ hne]
          exact hst.yes i o t hi hd (by rw [getD_set_ne true (Ne.symm hij)] at hl; exact hl)
      · have hne : oj.dst ≠ some t := fun hd' => by
          have := hno j oj hlj hd'
          simp [hjl'] at this
        rw [put_other _ _ _ _ hne]
        refine hst.no t fun i o hi hd => ?_
        have h1 := hno i o hi hd
        by_cases hij : i = j
        · subst hij; simp [hjl'] at h1
        · rw [getD_set_ne true (Ne.symm hij)] at h1; exact h1


/-- the acts of the text's order -/
inductive chainS (P : Program) (ops : Array Oper) (S0 S1 : World → Prop) (p : Nat) (fr : List Nat) (K : Act → Prop) : Nat → List Oper → Act → Prop
  | nil {k : Nat} {a : Act} : K a → chainS P ops S0 S1 p fr K k [] a
  | cons {k : Nat} {o : Oper} {rest : List Oper} {a : Act} (v : Value) : doesAt P ops S0 S1 p fr k o a (a.put o.dst v) → chainS P ops S0 S1 p fr K (k + 1) rest (a.put o.dst v) → chainS P ops S0 S1 p fr K k (o :: rest) a
variable {p : Nat} {fr : List Nat}
theorem chainS_mid {K : Act → Prop} {k : Nat} {o : Oper} {rest : List Oper} {a a1 : Act} (hk : decide (k = p) = false) (h : does1 P ops S0 o a a1) (h1 : fr.contains k = true → does1 P ops S1 o a a1) (hp : a1 = a.put o.dst (a1.eval (.tmp (o.dst.getD 0))))
    (hr : chainS P ops S0 S1 p fr K (k + 1) rest a1) : chainS P ops S0 S1 p fr K k (o :: rest) a := by
  have hk' := of_decide_eq_false hk
  refine .cons (a1.eval (.tmp (o.dst.getD 0))) ?_ ?_
  · rw [← hp]; exact ⟨fun _ => h, fun _ hm => h1 (by simpa using hm), fun e => absurd e hk'⟩
  · rw [← hp]; exact hr
theorem chainS_store {K : Act → Prop} {k : Nat} {o : Oper} {rest : List Oper} {a a1 : Act} (hk : decide (k = p) = true) (h : ∀ w, S0 w → wpList P ops (settled S1 a1) [o] a w) (hp : a1 = a.put o.dst (a1.eval (.tmp (o.dst.getD 0))))
    (hr : chainS P ops S0 S1 p fr K (k + 1) rest a1) : chainS P ops S0 S1 p fr K k (o :: rest) a := by
  have hk' := of_decide_eq_true hk
  refine .cons (a1.eval (.tmp (o.dst.getD 0))) ?_ ?_
  · rw [← hp]; exact ⟨fun e => absurd hk' e, fun e => absurd hk' e, fun _ => h⟩
  · rw [← hp]; exact hr
theorem chainS_acts {K : Act → Prop} : ∀ (l : List Oper) (n : Nat) (a : Act), chainS P ops S0 S1 p fr K n l a → ∃ F : Nat → Value, K (actAt l F a l.length) ∧ ∀ k o, l[k]? = some o → doesAt P ops S0 S1 p fr (n + k) o (actAt l F a k) (actAt l F a (k + 1))
  | [], n, a, .nil h => ⟨fun _ => undef, h, fun k o hk => by simp at hk⟩
  | o :: l, n, a, .cons v h1 h2 => by
    obtain ⟨F, hK, hF⟩ := chainS_acts l (n + 1) (a.put o.dst v) h2
    refine ⟨fun i => match i with | 0 => v | i + 1 => F i, ?_, fun k o' hk => ?_⟩
    · rw [List.length_cons, actAt_cons]
      exact hK
    · cases k with
      | zero =>
        simp at hk
        subst hk
        simpa [actAt] using h1
      | succ k =>
        have := hF k o' (by simpa using hk)
        rw [actAt_cons, actAt_cons, show n + (k + 1) = n + 1 + k by omega]
        exact this
/-- **A drawn region with one store**: S0 is what holds of the world ahead of the store, S1 behind it. -/
theorem wp_region_store {id : Nat} {l : List Oper} {a : Act} {w : World} (S0 S1 : World → Prop) (p : Nat) (fr : List Nat) (hm : P.follows .mixedOrders = true) (ho : orderly l.toArray = true) (hp : decide (p < l.length) = true) (hfr : storesLast l.toArray p fr = true) (hS : S0 w.drew)
    (h : chainS P l.toArray S0 S1 p fr (fun a' => ∀ w', S1 w' → Q .normal a' w') 0 l a) : (Code.region id l.toArray true).wp P Q a w := by
  have hp' := of_decide_eq_true hp
  obtain ⟨F, hK, hF⟩ := chainS_acts l 0 a h
  refine wp_region_any hm ?_
  refine wpAny_store ho hp' hfr (fun k o hk => by have := hF k o hk; rwa [Nat.zero_add] at this) hK _ _ a _ (by simp) (by simp [List.countP_replicate]) ⟨rfl, rfl, fun i o t hi _ hl => ?_, fun _ _ => rfl⟩ ⟨fun _ => hS, fun e => ?_, fun e => ?_⟩
  · have : i < l.length := (List.getElem?_eq_some_iff.1 hi).1
    simp [this] at hl
  · simp [hp'] at e
  · simp [hp'] at e
end
end Go.Proofs.YtpbflgemhcaooaaDoor
