import Derived.Test.YtljcgcllhcdleaaLg5
import Derived.StillTail
/- A drawn region in one given order: an operation is taken when it leaves the world alone and reads only what stays (it is 'light'), or when nothing else may come up (it is 'heavy': a call, a store, an append). -/
namespace Go.Proofs.Ytljcgcllhcdleaa
open Go.RowKit
section
variable {P : Program} {ops : Array Oper} {Q : Exit → Act → World → Prop} {S : World → Prop}

/-- is the order one in which the region may be walked? -/
def ordered (ops : Array Oper) : List (Nat × Bool) → Array Bool → Bool
  | [], listed => (Region.ready .any ops listed).isEmpty
  | (i, light) :: rest, listed =>
    (if light then Region.free .any ops listed i && (Region.ready .any ops listed).contains i else Region.ready .any ops listed == [i]) && ordered ops rest (listed.setIfInBounds i true)

/-- light: in every world that is right it leaves v, and the world as it is -/
def light1 (P : Program) (ops : Array Oper) (S : World → Prop) (o : Oper) (a : Act) (v : Value) : Prop := YieldsIf P ops S o v a

theorem light_plain {o : Oper} {a : Act} {v : Value} (hg : o.guard = none) (h : ∀ w, S w → (execOp a.eval o).run P w = .ok (.value v) w) : light1 P ops S o a v :=
  .inl ⟨by simp [Region.wanted, hg], h⟩
theorem light_yes {o : Oper} {a : Act} {v : Value} (hw : Region.wanted o (yielded ops a.tmps) = true) (h : ∀ w, S w → (execOp a.eval o).run P w = .ok (.value v) w) : light1 P ops S o a v :=
  .inl ⟨hw, h⟩
theorem light_no {o : Oper} {a : Act} (hw : Region.wanted o (yielded ops a.tmps) = false) : light1 P ops S o a undef := .inr ⟨hw, rfl⟩

/-- the walk in an order -/
def trail (P : Program) (ops : Array Oper) (Q : Exit → Act → World → Prop) (S : World → Prop) : List (Nat × Bool) → Act → World → Prop
  | [], a, w => Q .normal a w
  | (i, true) :: rest, a, w => ∃ o v, ops[i]? = some o ∧ (∀ c a' w', Q (.panic c) (a'.put o.dst v) w' → Q (.panic c) a' w') ∧ light1 P ops S o a v ∧ trail P ops Q S rest (a.put o.dst v) w
  | (i, false) :: rest, a, w => wpOp P ops Q i (fun a' w' => S w' ∧ trail P ops Q S rest a' w') a w

theorem trail_wpAnyH (hs : Region.noSelect ops = true) : ∀ (order : List (Nat × Bool)) (fuel : Nat) (listed : Array Bool) (a : Act) (w : World), order.length ≤ fuel → ordered ops order listed = true → S w → trail P ops Q S order a w → wpAnyH P .any ops Q S fuel listed a w
  | [], fuel, listed, a, w, _, ho, _, h => wpAnyH_done (by unfold ordered at ho; simpa using ho) h fuel
  | (i, l) :: rest, 0, listed, a, w, hf, _, _, _ => absurd hf (by simp)
  | (i, true) :: rest, fuel + 1, listed, a, w, hf, ho, hS, h => by
    obtain ⟨o, v, hi, hQ, hl, hr⟩ := h
    unfold ordered at ho
    simp only [if_true, Bool.and_eq_true] at ho
    exact wpAnyH_take hi hs ho.1.1 ho.1.2 (fun c a' w' => hQ c a' w') hl hS (trail_wpAnyH hs rest fuel _ _ _ (by simpa using hf) ho.2 hS hr)
  | (i, false) :: rest, fuel + 1, listed, a, w, hf, ho, hS, h => by
    unfold ordered at ho
    simp only [Bool.false_eq_true, if_false, Bool.and_eq_true, beq_iff_eq] at ho
    refine wpAnyH_all ho.1 (by simp) fun j hj => ?_
    have : j = i := by simpa using hj
    subst this
    exact wpOp_mono (fun a' w' h' => ⟨h'.1, trail_wpAnyH hs rest fuel _ _ _ (by simpa using hf) ho.2 h'.1 h'.2⟩) h

theorem wp_region_trail {id : Nat} {a : Act} {w : World} (S : World → Prop) (order : List (Nat × Bool)) (hm : P.follows .mixedOrders = true) (hs : Region.noSelect ops = true)
    (ho : ordered ops order (Array.replicate ops.size false) = true) (hl : order.length ≤ ops.size) (hS : S w.drew) (h : trail P ops Q S order a w.drew) : (Code.region id ops true).wp P Q a w :=
  wp_region_held hm (trail_wpAnyH hs order _ _ _ _ hl ho hS h)

theorem trail_light {i : Nat} {o : Oper} {rest : List (Nat × Bool)} {a : Act} {w : World} {v : Value} (hi : ops[i]? = some o) (hl : light1 P ops S o a v) (hQ : ∀ c a' w', Q (.panic c) (a'.put o.dst v) w' → Q (.panic c) a' w')
    (hr : trail P ops Q S rest (a.put o.dst v) w) : trail P ops Q S ((i, true) :: rest) a w := ⟨o, v, hi, hQ, hl, hr⟩
theorem trail_nil {a : Act} {w : World} (h : Q .normal a w) : trail P ops Q S [] a w := h
/-- K where it goes on, else Q -/
def onNormal (K : Act → World → Prop) (Q : Exit → Act → World → Prop) : Exit → Act → World → Prop
  | .normal, a, w => K a w
  | e, a, w => Q e a w
theorem trail_heavy {i : Nat} {o : Oper} {rest : List (Nat × Bool)} {a : Act} {w : World} (hi : ops[i]? = some o)
    (h : wpList P ops (onNormal (fun a' w' => S w' ∧ trail P ops Q S rest a' w') Q) [o] a w) : trail P ops Q S ((i, false) :: rest) a w := by
  show wpOp P ops Q i (fun a' w' => S w' ∧ trail P ops Q S rest a' w') a w
  unfold wpOp
  simp only [hi]
  unfold wpList at h
  split
  · rename_i hw
    rw [if_pos hw] at h
    refine h.imp (fun h => ?_) (fun h => ⟨h.1, ?_⟩)
    · unfold Oper.wp at *
      generalize (execOp a.eval o).run P w = r at *
      cases r with
      | ok n w' =>
        cases n <;> simp only [Oper.upon] at h ⊢ <;> exact h
      | halt x w' => cases x <;> simp only [Oper.upon] at h ⊢ <;> exact h
    · obtain ⟨a', w', h2⟩ := h.2
      exact ⟨a', w', h2⟩
  · rename_i hw
    rw [if_neg hw] at h
    exact h
end
end Go.Proofs.Ytljcgcllhcdleaa
/- A drawn region with one store: the operations for which the store waits see the world ahead of it; the few others do the same in both. -/
namespace Go.Proofs.Ytljcgcllhcdleaa
open Go.RowKit
section
variable {P : Program} {ops : Array Oper} {S0 S1 : World → Prop} {Q : Exit → Act → World → Prop}

theorem look_wpOp {S' : World → Prop} {j : Nat} {o : Oper} {A A1 a : Act} {K : Act → World → Prop} {v : Value} {w : World} (hj : ops[j]? = some o) (hs : ∀ cs b, o.op ≠ .select cs b)
    (h1 : wpList P ops (settled S' A1) [o] A w) (hA : A1 = A.put o.dst v) (hlook : ∀ t ∈ o.looksAt ops, A.tmps[t]? = a.tmps[t]?) (hsz : A.tmps.size = a.tmps.size)
    (hK : ∀ w', S' w' → K (a.put o.dst v) w') : wpOp P ops Q j K a w := by
  obtain ⟨he, hw⟩ := look_congr o hs A a hlook
  unfold wpOp
  simp only [hj]
  unfold wpList at h1
  rw [hw] at h1
  split
  · rename_i hwt
    rw [if_pos hwt] at h1
    refine .inl ?_
    rcases h1 with h1 | ⟨_, a', w', h1, _⟩
    case inr => cases h1
    unfold Oper.wp at *
    rw [he] at h1
    have fin : ∀ u w', wpList P ops (settled S' A1) [] (A.put o.dst u) w' → K (a.put o.dst u) w' := fun u w' h2 => by
      obtain ⟨_, h3, h4⟩ := h2
      rw [hA] at h3
      rw [put_same h3 hsz]
      exact hK w' h4
    generalize (execOp a.eval o).run P w = r at *
    cases r with
    | ok n w' =>
      cases n <;> simp only [Oper.upon] at h1 ⊢
      case value u => exact fin u w' h1
      case skip => exact fin undef w' h1
      case defer d =>
        obtain ⟨_, h3, _⟩ := h1
        rw [hA] at h3
        have := congrArg Act.defers h3
        rw [put_defers', put_defers'] at this
        exact absurd (congrArg List.length this) (by simp)
      case enter f args =>
        refine Calls.mono h1 fun e w'' he => ?_
        cases e with
        | returned u => exact fin u w'' he
        | panicked c => exact absurd he.1 (by simp)
        | outgrown => obtain ⟨a', w', h2, _⟩ := he; cases h2
      case row row args => exact Rows.mono h1 fun u w'' he => fin u w'' he
    | halt x w' =>
      cases x <;> simp only [Oper.upon] at h1 ⊢
      case panic u => exact absurd h1.1 (by simp)
  · rename_i hwt
    rw [if_neg hwt] at h1
    obtain ⟨_, h3, h4⟩ := h1
    rw [hA] at h3
    rw [put_same h3 hsz]
    exact hK w h4

/-- the store waits for all but these, and nobody waits for it -/
def storesLast (ops : Array Oper) (p : Nat) (fr : List Nat) : Bool :=
  (List.range ops.size).all fun k => k == p || ((Region.waitsFor .any ops p k || fr.contains k) && !Region.waitsFor .any ops k p)
theorem storesLast_spec {p : Nat} {fr : List Nat} (h : storesLast ops p fr = true) {k : Nat} (hk : k < ops.size) (hn : k ≠ p) : (Region.waitsFor .any ops p k = true ∨ k ∈ fr) := by
  unfold storesLast at h
  rw [List.all_eq_true] at h
  have := h k (List.mem_range.2 hk)
  simp only [Bool.or_eq_true, beq_iff_eq, Bool.and_eq_true, List.contains_eq_mem, decide_eq_true_eq] at this
  exact (this.resolve_left hn).1
/-- what an operation does, ahead of the store, and behind it -/
structure doesAt (P : Program) (ops : Array Oper) (S0 S1 : World → Prop) (p : Nat) (fr : List Nat) (k : Nat) (o : Oper) (a a1 : Act) : Prop where
  pre : k ≠ p → does1 P ops S0 o a a1
  post : k ≠ p → k ∈ fr → does1 P ops S1 o a a1
  store : k = p → ∀ w, S0 w → wpList P ops (settled S1 a1) [o] a w
/-- which of the two it is, by what is listed -/
structure Phase (ops : Array Oper) (S0 S1 : World → Prop) (p : Nat) (listed : Array Bool) (w : World) : Prop where
  pre : listed.getD p true = false → S0 w
  post : listed.getD p true = true → S1 w
  closed : listed.getD p true = true → ∀ k, Region.waitsFor .any ops p k = true → listed.getD k false = true
theorem Phase.last {p : Nat} {listed : Array Bool} {w : World} (h : Phase ops S0 S1 p listed w) (hl : listed.getD p true = true) : S1 w := h.post hl
theorem getD_true_false {listed : Array Bool} {k : Nat} (hk : k < listed.size) : listed.getD k true = listed.getD k false := by simp [hk]
theorem Phase.next {p : Nat} {fr : List Nat} {listed : Array Bool} {w : World} {j : Nat} {o : Oper} {a a1 : Act} (h : Phase ops S0 S1 p listed w) (hsz : listed.size = ops.size) (hfr : storesLast ops p fr = true) (hj : j ∈ Region.ready .any ops listed)
    (hd : doesAt P ops S0 S1 p fr j o a a1) : ∃ S' : World → Prop, wpList P ops (settled S' a1) [o] a w ∧ ∀ w', S' w' → Phase ops S0 S1 p (listed.setIfInBounds j true) w' := by
  obtain ⟨hjun, oj, hoj, hdeps⟩ := mem_ready.1 hj
  have hjs : j < listed.size := by rw [hsz]; exact (Array.getElem?_eq_some_iff.1 hoj).1
  have keep : ∀ k, listed.getD k false = true → (listed.setIfInBounds j true).getD k false = true := fun k hk => by
    by_cases hkj : k = j
    · subst hkj; simp [hjs]
    · rw [getD_set_ne false (fun e => hkj e.symm)]; exact hk
  by_cases hjp : j = p
  · subst hjp
    refine ⟨S1, hd.store rfl w (h.pre hjun), fun w' hw => ⟨fun e => ?_, fun _ => hw, fun _ k hk => ?_⟩⟩
    · simp [hjs] at e
    · obtain ⟨o', ho', e, he, hb, hek⟩ := Region.waitsFor_spec hk
      rw [hoj] at ho'
      injection ho' with ho'
      subst ho'
      have := hdeps e he hb
      rw [hek] at this
      exact keep k this
  · have hpe : (listed.setIfInBounds j true).getD p true = listed.getD p true := getD_set_ne true hjp
    cases hp : listed.getD p true with
    | false => exact ⟨S0, hd.pre hjp w (h.pre hp), fun w' hw => ⟨fun _ => hw, fun e => (by rw [hpe, hp] at e; cases e), fun e => (by rw [hpe, hp] at e; cases e)⟩⟩
    | true =>
      have hjo : j < ops.size := by omega
      rcases storesLast_spec hfr hjo hjp with hw | hm
      · have := h.closed hp j hw
        rw [getD_true_false hjs, this] at hjun
        cases hjun
      · exact ⟨S1, hd.post hjp hm w (h.post hp), fun w' hw => ⟨fun e => (by rw [hpe, hp] at e; cases e), fun _ => hw, fun _ k hk => keep k (h.closed hp k hk)⟩⟩
theorem wpAny_store {p : Nat} {fr : List Nat} {l : List Oper} {F : Nat → Value} {a0 : Act} (ho : orderly l.toArray = true)
    (hp : p < l.length) (hfr : storesLast l.toArray p fr = true) (hF : ∀ k o, l[k]? = some o → doesAt P l.toArray S0 S1 p fr k o (actAt l F a0 k) (actAt l F a0 (k + 1)))
    (hK : ∀ w, S1 w → Q .normal (actAt l F a0 l.length) w) :
    ∀ (fuel : Nat) (listed : Array Bool) (a : Act) (w : World), listed.size = l.length → (listed.toList.countP (· == false)) = fuel → Stands l F a0 listed a → Phase l.toArray S0 S1 p listed w → wpAny P .any l.toArray Q fuel listed a w := by
  have hsel := Region.noSelect_spec (ops := l.toArray) (by unfold orderly at ho; exact (Bool.and_eq_true _ _ ▸ ho).1)
  have wr : ∀ (i j : Nat) (o o' : Oper) (t : Tmp), l[i]? = some o → l[j]? = some o' → o.dst = some t → o'.dst = some t → i = j := fun i j o o' t hi hj h1 h2 => by
    rcases Nat.lt_trichotomy i j with h | h | h
    · exact absurd h2 (((orderly_spec ho (j := j) (oj := o') (by simpa using hj)).2 i o t (by simpa using hi) h1).1 (by omega))
    · exact h
    · exact absurd h2 (((orderly_spec ho (j := j) (oj := o') (by simpa using hj)).2 i o t (by simpa using hi) h1).1 (by omega))
  have done : ∀ (listed : Array Bool) (a : Act) (w : World), listed.size = l.length → (∀ i, i < l.length → listed.getD i true = true) → Stands l F a0 listed a → S1 w → Q .normal a w := fun listed a w hsz hall hst hS => by
    have : a = actAt l F a0 l.length := by
      have e1 : a.tmps = (actAt l F a0 l.length).tmps := by
        have pt : ∀ t : Nat, a.tmps[t]? = (actAt l F a0 l.length).tmps[t]? := fun t => by
          by_cases hx : ∃ (i : Nat) (o : Oper), l[i]? = some o ∧ o.dst = some t
          · obtain ⟨i, o, hi, hd⟩ := hx
            exact hst.yes i o t hi hd (hall i (List.getElem?_eq_some_iff.1 hi).1)
          · have h1 := hst.no t (fun i o hi hd => absurd ⟨i, o, hi, hd⟩ hx)
            have h2 := actAt_still l F a0 t 0 l.length (fun i o _ _ hi hd => hx ⟨i, o, hi, hd⟩)
            rw [Nat.zero_add] at h2
            rw [h1, h2]
            rfl
        apply Array.ext_getElem?
        intro t
        exact pt t
      have e2 : a.defers = (actAt l F a0 l.length).defers := by rw [hst.defers, actAt_defers]
      cases a
      simp only at e1 e2
      rw [e1, e2]
    rw [this]
    exact hK w hS
  intro fuel
  induction fuel with
  | zero =>
    intro listed a w hsz hc hst hS
    have hall : ∀ i, i < l.length → listed.getD i true = true := fun i hi => by
      rw [List.countP_eq_zero] at hc
      have hil : i < listed.size := by omega
      have := hc listed[i] (by simp)
      simp [hil] at this ⊢
      exact this
    refine ⟨?_, done listed a w hsz hall hst (hS.last (hall p hp))⟩
    cases hr : Region.ready .any l.toArray listed with
    | nil => rfl
    | cons x xs =>
      have hm : x ∈ Region.ready .any l.toArray listed := by rw [hr]; exact List.mem_cons_self
      obtain ⟨h1, o, h2, _⟩ := mem_ready.1 hm
      rw [hall x (by have := (Array.getElem?_eq_some_iff.1 h2).1; simpa using this)] at h1
      cases h1
  | succ fuel ih =>
    intro listed a w hsz hc hst hS
    refine ⟨fun hr => done listed a w hsz (fun i hi => ready_none ho hr (by simpa using hsz) i (by simpa using hi)) hst (hS.last (ready_none ho hr (by simpa using hsz) p (by simpa using hp))), fun j hj => ?_⟩
    obtain ⟨hjun, oj, hoj, hdeps⟩ := mem_ready.1 hj
    have hlj : l[j]? = some oj := by simpa using hoj
    have hjl : j < l.length := (List.getElem?_eq_some_iff.1 hlj).1
    have hA : actAt l F a0 (j + 1) = (actAt l F a0 j).put oj.dst (F j) := by
      show (match l[j]? with | none => _ | some o => _) = _
      rw [hlj]
    obtain ⟨hlt, hsp⟩ := orderly_spec ho hoj
    have still : ∀ (i : Nat) (o : Oper) (t : Tmp), l[i]? = some o → o.dst = some t → ∀ k, i < k → k ≤ l.length → (actAt l F a0 l.length).tmps[t]? = (actAt l F a0 k).tmps[t]? := fun i o t hi hd k hk hkl => by
      have := actAt_still l F a0 t k (l.length - k) (fun i' o' h1 _ h3 h4 => by have := wr i i' o o' t hi h3 hd h4; omega)
      rw [← this, show k + (l.length - k) = l.length from by omega]
    obtain ⟨S', hstep, hS2⟩ := hS.next (by simpa using hsz) hfr hj (hF j oj hlj)
    refine look_wpOp (S' := S') hoj (fun cs b => hsel j oj cs b hoj) hstep hA (fun t ht => ?_) (by rw [actAt_size, hst.size]) (fun w' hS' => ?_)
    · by_cases hx : ∃ (i : Nat) (o : Oper), l[i]? = some o ∧ o.dst = some t
      · obtain ⟨i, o, hi, hd⟩ := hx
        obtain ⟨e, he, heq, hb⟩ := (hsp i o t (by simpa using hi) hd).2 ht
        have hl := hdeps e he hb
        rw [heq] at hl
        have hij : i < j := by have := hlt e he hb; omega
        have hil : i < listed.size := by omega
        rw [hst.yes i o t hi hd (by simp [hil] at hl ⊢; exact hl)]
        exact (still i o t hi hd j hij (by omega)).symm
      · rw [hst.no t (fun i o hi hd => absurd ⟨i, o, hi, hd⟩ hx)]
        have h2 := actAt_still l F a0 t 0 j (fun i o _ _ hi hd => hx ⟨i, o, hi, hd⟩)
        rw [Nat.zero_add] at h2
        exact h2
    · have hjl' : j < listed.size := by omega
      have hjf : listed[j] = false := by simpa [hjl'] using hjun
      refine ih (listed.setIfInBounds j true) _ w' (by simpa using hsz) ?_ ⟨by rw [put_defers', hst.defers], by rw [put_size, hst.size], fun i o t hi hd hl => ?_, fun t hno => ?_⟩ (hS2 w' hS')
      · rw [Array.setIfInBounds, dif_pos hjl', Array.toList_set, List.countP_set (by simpa using hjl')]
        rw [hc]
        simp [hjf]
      · by_cases hij : i = j
        · subst hij
          rw [hlj] at hi
          injection hi with hi
          subst hi
          rw [still i oj t hlj hd (i + 1) (by omega) (by omega), hA, hd]
          exact put_at (by rw [actAt_size, hst.size])
        · have hne : oj.dst ≠ some t := fun hd' => hij (wr i j o oj t hi hlj hd hd')
          rw [put_other _ _ _ _ hne]
          exact hst.yes i o t hi hd (by rw [getD_set_ne true (Ne.symm hij)] at hl; exact hl)
      · have hne : oj.dst ≠ some t := fun hd' => by
          have := hno j oj hlj hd'
          simp [hjl'] at this
        rw [put_other _ _ _ _ hne]
        refine hst.no t fun i o hi hd => ?_
        have h1 := hno i o hi hd
        by_cases hij : i = j
        · subst hij; simp [hjl'] at h1
        · rw [getD_set_ne true (Ne.symm hij)] at h1; exact h1


/-- the acts of the text's order -/
inductive chainS (P : Program) (ops : Array Oper) (S0 S1 : World → Prop) (p : Nat) (fr : List Nat) (K : Act → Prop) : Nat → List Oper → Act → Prop
  | nil {k : Nat} {a : Act} : K a → chainS P ops S0 S1 p fr K k [] a
  | cons {k : Nat} {o : Oper} {rest : List Oper} {a : Act} (v : Value) : doesAt P ops S0 S1 p fr k o a (a.put o.dst v) → chainS P ops S0 S1 p fr K (k + 1) rest (a.put o.dst v) → chainS P ops S0 S1 p fr K k (o :: rest) a
variable {p : Nat} {fr : List Nat}
theorem chainS_mid {K : Act → Prop} {k : Nat} {o : Oper} {rest : List Oper} {a a1 : Act} (hk : decide (k = p) = false) (h : does1 P ops S0 o a a1) (h1 : fr.contains k = true → does1 P ops S1 o a a1) (hp : a1 = a.put o.dst (a1.eval (.tmp (o.dst.getD 0))))
    (hr : chainS P ops S0 S1 p fr K (k + 1) rest a1) : chainS P ops S0 S1 p fr K k (o :: rest) a := by
  have hk' := of_decide_eq_false hk
  refine .cons (a1.eval (.tmp (o.dst.getD 0))) ?_ ?_
  · rw [← hp]; exact ⟨fun _ => h, fun _ hm => h1 (by simpa using hm), fun e => absurd e hk'⟩
  · rw [← hp]; exact hr
theorem chainS_store {K : Act → Prop} {k : Nat} {o : Oper} {rest : List Oper} {a a1 : Act} (hk : decide (k = p) = true) (h : ∀ w, S0 w → wpList P ops (settled S1 a1) [o] a w) (hp : a1 = a.put o.dst (a1.eval (.tmp (o.dst.getD 0))))
    (hr : chainS P ops S0 S1 p fr K (k + 1) rest a1) : chainS P ops S0 S1 p fr K k (o :: rest) a := by
  have hk' := of_decide_eq_true hk
  refine .cons (a1.eval (.tmp (o.dst.getD 0))) ?_ ?_
  · rw [← hp]; exact ⟨fun e => absurd hk' e, fun e => absurd hk' e, fun _ => h⟩
  · rw [← hp]; exact hr
theorem chainS_acts {K : Act → Prop} : ∀ (l : List Oper) (n : Nat) (a : Act), chainS P ops S0 S1 p fr K n l a → ∃ F : Nat → Value, K (actAt l F a l.length) ∧ ∀ k o, l[k]? = some o → doesAt P ops S0 S1 p fr (n + k) o (actAt l F a k) (actAt l F a (k + 1))
  | [], n, a, .nil h => ⟨fun _ => undef, h, fun k o hk => by simp at hk⟩
  | o :: l, n, a, .cons v h1 h2 => by
    obtain ⟨F, hK, hF⟩ := chainS_acts l (n + 1) (a.put o.dst v) h2
    refine ⟨fun i => match i with | 0 => v | i + 1 => F i, ?_, fun k o' hk => ?_⟩
    · rw [List.length_cons, actAt_cons]
      exact hK
    · cases k with
      | zero =>
        simp at hk
        subst hk
        simpa [actAt] using h1
      | succ k =>
        have := hF k o' (by simpa using hk)
        rw [actAt_cons, actAt_cons, show n + (k + 1) = n + 1 + k by omega]
        exact this
/-- **A drawn region with one store**: S0 is what holds of the world ahead of the store, S1 behind it. -/
theorem wp_region_store {id : Nat} {l : List Oper} {a : Act} {w : World} (S0 S1 : World → Prop) (p : Nat) (fr : List Nat) (hm : P.follows .mixedOrders = true) (ho : orderly l.toArray = true) (hp : decide (p < l.length) = true) (hfr : storesLast l.toArray p fr = true) (hS : S0 w.drew)
    (h : chainS P l.toArray S0 S1 p fr (fun a' => ∀ w', S1 w' → Q .normal a' w') 0 l a) : (Code.region id l.toArray true).wp P Q a w := by
  have hp' := of_decide_eq_true hp
  obtain ⟨F, hK, hF⟩ := chainS_acts l 0 a h
  refine wp_region_any hm ?_
  refine wpAny_store ho hp' hfr (fun k o hk => by have := hF k o hk; rwa [Nat.zero_add] at this) hK _ _ a _ (by simp) (by simp [List.countP_replicate]) ⟨rfl, rfl, fun i o t hi _ hl => ?_, fun _ _ => rfl⟩ ⟨fun _ => hS, fun e => ?_, fun e => ?_⟩
  · have : i < l.length := (List.getElem?_eq_some_iff.1 hi).1
    simp [this] at hl
  · simp [hp'] at e
  · simp [hp'] at e
end
end Go.Proofs.Ytljcgcllhcdleaa
/- A drawn region whose last operation (a store) waits for all others: ahead of it the walk is a trail over the others, and what holds of the worlds there need not hold behind it. -/
namespace Go.Proofs.Ytljcgcllhcdleaa
open Go.RowKit
set_option linter.unusedSimpArgs false
section
variable {P : Program} {ops : Array Oper} {Q : Exit → Act → World → Prop} {S : World → Prop}

/-- the last one waits for all others; no guard looks at it -/
def lastWaits (ops : Array Oper) (p : Nat) : Bool :=
  decide (p + 1 = ops.size) && (List.range p).all fun k => (Region.waitsFor .any ops p k || (List.range p).any fun j => Region.waitsFor .any ops p j && Region.waitsFor .any ops j k) && match ops[k]? with
    | some o => o.after.all (fun e => decide (e.on < p)) && match o.guard with
      | some (g, _) => decide (g < p)
      | none => true
    | none => true

theorem lastWaits_spec {p : Nat} (h : lastWaits ops p = true) : p + 1 = ops.size ∧ (∀ k, k < p → Region.waitsFor .any ops p k = true ∨ ∃ j, j < p ∧ Region.waitsFor .any ops p j = true ∧ Region.waitsFor .any ops j k = true) ∧
    (∀ k o, k < p → ops[k]? = some o → (∀ e ∈ o.after, e.on < p) ∧ ∀ g b, o.guard = some (g, b) → g < p) := by
  unfold lastWaits at h
  rw [Bool.and_eq_true, decide_eq_true_eq, List.all_eq_true] at h
  refine ⟨h.1, fun k hk => ?_, fun k o hk ho => ?_⟩
  · have := h.2 k (List.mem_range.2 hk)
    rw [Bool.and_eq_true] at this
    have h1 := this.1
    rw [Bool.or_eq_true, List.any_eq_true] at h1
    refine h1.imp id fun ⟨j, hj, h2⟩ => ⟨j, List.mem_range.1 hj, ?_⟩
    rw [Bool.and_eq_true] at h2
    exact h2
  · have := h.2 k (List.mem_range.2 hk)
    rw [Bool.and_eq_true] at this
    have h2 := this.2
    rw [ho] at h2
    simp only [Bool.and_eq_true, Array.all_eq_true_iff_forall_mem, decide_eq_true_eq] at h2
    refine ⟨h2.1, fun g b hg => ?_⟩
    have h3 := h2.2
    rw [hg] at h3
    simpa using h3

theorem pop_get {p : Nat} (hp : p + 1 = ops.size) {k : Nat} (hk : k < p) : ops.pop[k]? = ops[k]? := by
  rw [Array.getElem?_pop]
  rw [if_pos (by omega)]

theorem pop_none {p : Nat} (hp : p + 1 = ops.size) {k : Nat} (hk : p ≤ k) : ops.pop[k]? = none := by
  rw [Array.getElem?_eq_none]
  simp
  omega

theorem wanted_pop {p : Nat} (hp : p + 1 = ops.size) {o : Oper} (hg : ∀ g b, o.guard = some (g, b) → g < p) (a : Act) : Region.wanted o (yielded ops.pop a.tmps) = Region.wanted o (yielded ops a.tmps) := by
  unfold Region.wanted
  cases ho : o.guard with
  | none => rfl
  | some gw =>
    obtain ⟨g, want⟩ := gw
    have hlt := hg g want ho
    have : yielded ops.pop a.tmps g = yielded ops a.tmps g := by
      unfold yielded
      rw [pop_get hp hlt]
    simp only [this]

theorem wpOp_pop {p i : Nat} (h : lastWaits ops p = true) (hi : i < p) {Z K : Act → World → Prop} {a : Act} {w : World} (hh : wpOp P ops.pop (onNormal Z Q) i K a w) : wpOp P ops Q i K a w := by
  obtain ⟨hp, _, hs⟩ := lastWaits_spec h
  unfold wpOp at *
  rw [pop_get hp hi] at hh
  cases ho : ops[i]? with
  | none => rw [ho] at hh; exact hh
  | some o =>
    rw [ho] at hh
    simp only at hh ⊢
    rw [wanted_pop hp (hs i o hi ho).2] at hh
    split
    · rename_i hw
      rw [if_pos hw] at hh
      refine hh.imp (fun h => ?_) (fun h => ⟨h.1, ?_⟩)
      · unfold Oper.wp at *
        generalize (execOp a.eval o).run P w = r at *
        cases r with
        | ok n w' =>
          cases n <;> simp only [Oper.upon] at h ⊢ <;> exact h
        | halt x w' => cases x <;> simp only [Oper.upon] at h ⊢ <;> exact h
      · obtain ⟨a', w', h2⟩ := h.2
        exact ⟨a', w', h2⟩
    · rename_i hw
      rw [if_neg hw] at hh
      exact hh

theorem ready_pop {p : Nat} (h : lastWaits ops p = true) {listed : Array Bool} (hsz : listed.size = ops.size) {i : Nat} (hi : i < p) : i ∈ Region.ready .any ops listed ↔ i ∈ Region.ready .any ops.pop listed.pop := by
  obtain ⟨hp, _, hs⟩ := lastWaits_spec h
  have hg : ∀ k b, k < p → listed.pop.getD k b = listed.getD k b := fun k b hk => by
    have h1 : k < listed.size := by omega
    have h2 : k < listed.size - 1 := by omega
    simp [Array.getD_eq_getD_getElem?, Array.getElem?_pop, h1, h2]
  rw [mem_ready, mem_ready, pop_get hp hi, hg i true hi]
  constructor
  · rintro ⟨h1, o, h2, h3⟩
    exact ⟨h1, o, h2, fun e he hb => by rw [hg e.on false ((hs i o hi h2).1 e he)]; exact h3 e he hb⟩
  · rintro ⟨h1, o, h2, h3⟩
    exact ⟨h1, o, h2, fun e he hb => by have := h3 e he hb; rwa [hg e.on false ((hs i o hi h2).1 e he)] at this⟩

theorem pop_set {listed : Array Bool} {p i : Nat} (hp : p + 1 = listed.size) (hi : i < p) : (listed.setIfInBounds i true).pop = listed.pop.setIfInBounds i true := by
  apply Array.ext_getElem?
  intro k
  simp only [Array.getElem?_pop, Array.getElem?_setIfInBounds, Array.size_setIfInBounds, Array.size_pop]
  by_cases hk : k < listed.size - 1
  · simp only [hk, if_true]
    by_cases hik : i = k
    · subst hik
      have : i < listed.size := by omega
      simp [this, hk]
    · simp [hik]
  · simp only [hk, if_false]
    by_cases hik : i = k
    · omega
    · simp [hik]

/-- what is listed has all that it waits for listed -/
def closedL (ops : Array Oper) (listed : Array Bool) : Prop := ∀ j oj, ops[j]? = some oj → listed.getD j false = true → ∀ e ∈ oj.after, Region.binds .any e = true → listed.getD e.on false = true
theorem closedL_set {listed : Array Bool} (hc : closedL ops listed) {i : Nat} {o : Oper} (hi : ops[i]? = some o) (hd : ∀ e ∈ o.after, Region.binds .any e = true → listed.getD e.on false = true) : closedL ops (listed.setIfInBounds i true) := by
  have keep : ∀ k, listed.getD k false = true → (listed.setIfInBounds i true).getD k false = true := fun k hk => by
    by_cases hki : k = i
    · subst hki
      rcases Nat.lt_or_ge k listed.size with h | h
      · simp [h]
      · simp [Array.getElem?_eq_none h] at hk
    · rw [getD_set_ne false (fun e => hki e.symm)]; exact hk
  intro j oj hj hl e he hb
  by_cases hji : j = i
  · subst hji
    rw [hi] at hj
    injection hj with hj
    subst hj
    exact keep _ (hd e he hb)
  · rw [getD_set_ne false (fun e => hji e.symm)] at hl
    exact keep _ (hc j oj hj hl e he hb)
theorem wpAny_last {p : Nat} (h : lastWaits ops p = true) (ho : orderly ops = true) :
    ∀ (fuel : Nat) (listed : Array Bool) (a : Act) (w : World), listed.size = ops.size → closedL ops listed → listed.getD p true = false →
    wpAnyH P .any ops.pop (onNormal (fun a' w' => wpOp P ops Q p (fun a2 w2 => Q .normal a2 w2) a' w') Q) S fuel listed.pop a w → wpAny P .any ops Q (fuel + 1) listed a w := by
  obtain ⟨hp, hw, hs⟩ := lastWaits_spec h
  intro fuel
  induction fuel with
  | zero =>
    intro listed a w hsz hcl hl H
    refine ⟨fun hr => ?_, fun i hi => ?_⟩
    · have := ready_none ho hr hsz p (by omega)
      rw [this] at hl; cases hl
    · have hir := hi
      obtain ⟨h1, o, h2, h3⟩ := mem_ready.1 hi
      have hil : i < ops.size := (Array.getElem?_eq_some_iff.1 h2).1
      by_cases hip : i = p
      · subst hip
        have hall : ∀ k, k < ops.size → (listed.setIfInBounds i true).getD k true = true := fun k hk => by
          by_cases hki : k = i
          · subst hki
            have : k < listed.size := by omega
            simp [this]
          · rw [getD_set_ne true (fun e => hki e.symm)]
            have hks : k < listed.size := by omega
            rw [show listed.getD k true = listed.getD k false by simp [hks]]
            have dir : ∀ j, Region.waitsFor .any ops i j = true → listed.getD j false = true := fun j hj => by
              obtain ⟨o', ho', e, he, hb, hek⟩ := Region.waitsFor_spec hj
              rw [h2] at ho'
              injection ho' with ho'
              subst ho'
              have := h3 e he hb
              rwa [hek] at this
            rcases hw k (by omega) with hd | ⟨j, _, hj1, hj2⟩
            · exact dir k hd
            · obtain ⟨o', ho', e, he, hb, hek⟩ := Region.waitsFor_spec hj2
              have := hcl j o' ho' (dir j hj1) e he hb
              rwa [hek] at this
        have hz := H.2
        refine wpOp_mono (fun a' w' hQ => ?_) hz
        refine ⟨?_, hQ⟩
        cases hr : Region.ready .any ops (listed.setIfInBounds i true) with
        | nil => rfl
        | cons x xs =>
          have hm : x ∈ Region.ready .any ops (listed.setIfInBounds i true) := by rw [hr]; exact List.mem_cons_self
          obtain ⟨g1, g2, g3, _⟩ := mem_ready.1 hm
          rw [hall x (Array.getElem?_eq_some_iff.1 g3).1] at g1
          cases g1
      · have := (ready_pop h hsz (by omega : i < p)).1 hir
        rw [H.1] at this
        cases this
  | succ fuel ih =>
    intro listed a w hsz hcl hl H
    refine ⟨fun hr => ?_, fun i hi => ?_⟩
    · have := ready_none ho hr hsz p (by omega)
      rw [this] at hl; cases hl
    · have hir := hi
      obtain ⟨h1, o, h2, h3⟩ := mem_ready.1 hi
      have hil : i < ops.size := (Array.getElem?_eq_some_iff.1 h2).1
      by_cases hip : i = p
      · subst hip
        have hall : ∀ k, k < ops.size → (listed.setIfInBounds i true).getD k true = true := fun k hk => by
          by_cases hki : k = i
          · subst hki
            have : k < listed.size := by omega
            simp [this]
          · rw [getD_set_ne true (fun e => hki e.symm)]
            have hks : k < listed.size := by omega
            rw [show listed.getD k true = listed.getD k false by simp [hks]]
            have dir : ∀ j, Region.waitsFor .any ops i j = true → listed.getD j false = true := fun j hj => by
              obtain ⟨o', ho', e, he, hb, hek⟩ := Region.waitsFor_spec hj
              rw [h2] at ho'
              injection ho' with ho'
              subst ho'
              have := h3 e he hb
              rwa [hek] at this
            rcases hw k (by omega) with hd | ⟨j, _, hj1, hj2⟩
            · exact dir k hd
            · obtain ⟨o', ho', e, he, hb, hek⟩ := Region.waitsFor_spec hj2
              have := hcl j o' ho' (dir j hj1) e he hb
              rwa [hek] at this
        have hnil : Region.ready .any ops (listed.setIfInBounds i true) = [] := by
          cases hr : Region.ready .any ops (listed.setIfInBounds i true) with
          | nil => rfl
          | cons x xs =>
            have hm : x ∈ Region.ready .any ops (listed.setIfInBounds i true) := by rw [hr]; exact List.mem_cons_self
            obtain ⟨g1, g2, g3, _⟩ := mem_ready.1 hm
            rw [hall x (Array.getElem?_eq_some_iff.1 g3).1] at g1
            cases g1
        have hpn : Region.ready .any ops.pop listed.pop = [] := by
          cases hr : Region.ready .any ops.pop listed.pop with
          | nil => rfl
          | cons x xs =>
            have hm : x ∈ Region.ready .any ops.pop listed.pop := by rw [hr]; exact List.mem_cons_self
            obtain ⟨g1, g2, g3, _⟩ := mem_ready.1 hm
            have hx : x < i := by
              have := (Array.getElem?_eq_some_iff.1 g3).1
              simp at this
              omega
            have hm2 := (ready_pop h hsz hx).2 hm
            obtain ⟨g1', _⟩ := mem_ready.1 hm2
            have := hall x (by omega)
            rw [getD_set_ne true (by omega)] at this
            rw [this] at g1'
            cases g1'
        have hz := H.1 hpn
        refine wpOp_mono (fun a' w' hQ => ?_) hz
        exact ⟨fun _ => hQ, by rw [hnil]; simp⟩
      · have hlt : i < p := by omega
        have h4 := H.2 i ((ready_pop h hsz hlt).1 hir)
        refine wpOp_mono (fun a' w' h5 => ?_) (wpOp_pop h hlt h4)
        refine ih (listed.setIfInBounds i true) a' w' (by simpa using hsz) (closedL_set hcl h2 h3) ?_ ?_
        · rw [getD_set_ne true hip]; exact hl
        · rw [pop_set (by omega) hlt]; exact h5.2

/-- **A drawn region that ends with a store**: the order speaks of all but the last operation. -/
theorem wp_region_last {id : Nat} {a : Act} {w : World} (S : World → Prop) (order : List (Nat × Bool)) (p : Nat) (hm : P.follows .mixedOrders = true) (hs : Region.noSelect ops.pop = true) (h : lastWaits ops p = true) (hy : orderly ops = true)
    (ho : ordered ops.pop order (Array.replicate ops.pop.size false) = true) (hl : decide (order.length ≤ ops.pop.size) = true) (hS : S w.drew)
    (ht : trail P ops.pop (onNormal (fun a' w' => wpOp P ops Q p (fun a2 w2 => Q .normal a2 w2) a' w') Q) S order a w.drew) : (Code.region id ops true).wp P Q a w := by
  obtain ⟨hp, _, _⟩ := lastWaits_spec h
  refine wp_region_any hm ?_
  have H := trail_wpAnyH hs order ops.pop.size (Array.replicate ops.pop.size false) a w.drew (of_decide_eq_true hl) ho hS ht
  have e : (Array.replicate ops.size false).pop = Array.replicate ops.pop.size false := by
    apply Array.ext_getElem?
    intro k
    simp [Array.getElem?_pop, Array.getElem?_replicate]
  have h1 := wpAny_last (S := S) h hy ops.pop.size (Array.replicate ops.size false) a w.drew (by simp) (fun j oj _ hl => by
    simp [Array.getD_eq_getD_getElem?, Array.getElem?_replicate] at hl
    split at hl <;> simp at hl) (by
    have : p < ops.size := by omega
    simp [this]) (by rw [e]; exact H)
  have e2 : ops.pop.size + 1 = ops.size := by simp; omega
  rw [e2] at h1
  exact h1
theorem last_op {p : Nat} {o : Oper} {a : Act} {w : World} (hi : ops[p]? = some o) (h : wpList P ops Q [o] a w) : wpOp P ops Q p (fun a2 w2 => Q .normal a2 w2) a w := by
  unfold wpOp
  simp only [hi]
  unfold wpList at h
  split
  · rename_i hw
    rw [if_pos hw] at h
    exact h
  · rename_i hw
    rw [if_neg hw] at h
    exact h
theorem last_at {p : Nat} {o : Oper} {a : Act} {w : World} (hi : ops[p]? = some o) (h : wpList P ops Q [o] a w) : onNormal (fun a' w' => wpOp P ops Q p (fun a2 w2 => Q .normal a2 w2) a' w') Q .normal a w := last_op hi h
end
end Go.Proofs.Ytljcgcllhcdleaa
