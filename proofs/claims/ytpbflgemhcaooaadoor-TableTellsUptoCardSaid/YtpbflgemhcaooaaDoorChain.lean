import Derived.Test.YtpbflgemhcaooaaDoorLib
import Derived.OrdersHeld
import Derived.Deep.RegionHeld
/- A drawn region whose operations leave the same values in whatever order: it is walked once, in the order of its text. -/
namespace Go.Proofs.YtpbflgemhcaooaaDoor
open Go.RowKit

/-- every operation waits for those whose slots it looks at; no slot is written twice; the text's order is one of those that may be -/
def orderly (ops : Array Oper) : Bool :=
  Region.noSelect ops && (List.range ops.size).all fun j => match ops[j]? with
    | none => true
    | some oj => oj.after.all (fun e => !Region.binds .any e || decide (e.on < j)) && (List.range ops.size).all fun i => match ops[i]? with
      | none => true
      | some oi => match oi.dst with
        | none => true
        | some d => (i == j || oj.dst != some d) && (!(oj.looksAt ops).contains d || oj.after.any (fun e => e.on == i && Region.binds .any e))

theorem orderly_spec {ops : Array Oper} (h : orderly ops = true) {j : Nat} {oj : Oper} (hj : ops[j]? = some oj) :
    (∀ e ∈ oj.after, Region.binds .any e = true → e.on < j) ∧ ∀ i oi d, ops[i]? = some oi → oi.dst = some d → (i ≠ j → oj.dst ≠ some d) ∧ (d ∈ oj.looksAt ops → ∃ e ∈ oj.after, e.on = i ∧ Region.binds .any e = true) := by
  unfold orderly at h
  rw [Bool.and_eq_true, List.all_eq_true] at h
  have h1 := h.2 j (by rw [List.mem_range]; exact (Array.getElem?_eq_some_iff.1 hj).1)
  simp only [hj, Bool.and_eq_true, Array.all_eq_true_iff_forall_mem, List.all_eq_true, Bool.or_eq_true, Bool.not_eq_true', decide_eq_true_eq] at h1
  refine ⟨fun e he hb => (h1.1 e he).resolve_left (by simp [hb]), fun i oi d hi hd => ?_⟩
  have h2 := h1.2 i (by rw [List.mem_range]; exact (Array.getElem?_eq_some_iff.1 hi).1)
  simp only [hi, hd, Bool.and_eq_true, Bool.or_eq_true, beq_iff_eq, bne_iff_ne, ne_eq, Bool.not_eq_true'] at h2
  refine ⟨fun hne => h2.1.resolve_left hne, fun hm => ?_⟩
  rcases h2.2 with h3 | h3
  · rw [List.contains_eq_mem] at h3
    exact absurd hm (by simpa using h3)
  · obtain ⟨e, he, hb⟩ := Array.any_eq_true'.1 h3
    exact ⟨e, he, by simpa using hb⟩

/-- what an operation does hangs on the slots that it looks at -/
theorem look_congr {ops : Array Oper} (o : Oper) (hs : ∀ cs b, o.op ≠ .select cs b) (a b : Act) (h : ∀ t ∈ o.looksAt ops, a.tmps[t]? = b.tmps[t]?) :
    execOp a.eval o = execOp b.eval o ∧ Region.wanted o (yielded ops a.tmps) = Region.wanted o (yielded ops b.tmps) := by
  constructor
  · refine execOp_congr o hs fun x hx => ?_
    cases x with
    | tmp t =>
      have := h t (by
        unfold Oper.looksAt
        rw [List.mem_append, List.mem_filterMap]
        exact .inl ⟨.tmp t, by simpa using hx, rfl⟩)
      simp [Act.eval, Array.getD_eq_getD_getElem?, this]
    | _ => rfl
  · unfold Region.wanted
    cases hg : o.guard with
    | none => rfl
    | some gw =>
      obtain ⟨g, want⟩ := gw
      have hy : yielded ops a.tmps g = yielded ops b.tmps g := by
        unfold yielded
        cases ht : (ops[g]?).bind (·.dst) with
        | none => rfl
        | some t =>
          have := h t (by simp [Oper.looksAt, hg, ht])
          simp [this]
      simp only [hy]

section
variable {P : Program} {ops : Array Oper} {S : World → Prop}

/-- the way out: a1, and a right world -/
def settled (S : World → Prop) (a1 : Act) : Exit → Act → World → Prop := fun e a' w' => e = .normal ∧ a' = a1 ∧ S w'
theorem settled_intro {a1 : Act} {w : World} (h : S w) : settled S a1 .normal a1 w := ⟨rfl, rfl, h⟩

/-- one operation, from every world that is right, leaves what is to be left, and a right world -/
def does1 (P : Program) (ops : Array Oper) (S : World → Prop) (o : Oper) (a a1 : Act) : Prop :=
  ∀ w, S w → wpList P ops (settled S a1) [o] a w

/-- the acts of the text's order -/
inductive chain (P : Program) (ops : Array Oper) (S : World → Prop) (K : Act → Prop) : List Oper → Act → Prop
  | nil {a : Act} : K a → chain P ops S K [] a
  | cons {o : Oper} {rest : List Oper} {a : Act} (v : Value) : does1 P ops S o a (a.put o.dst v) → chain P ops S K rest (a.put o.dst v) → chain P ops S K (o :: rest) a

theorem chain_cons {K : Act → Prop} {o : Oper} {rest : List Oper} {a a1 : Act} (h : does1 P ops S o a a1) (hp : a1 = a.put o.dst (a1.eval (.tmp (o.dst.getD 0)))) (hr : chain P ops S K rest a1) : chain P ops S K (o :: rest) a := by
  refine .cons (a1.eval (.tmp (o.dst.getD 0))) ?_ ?_
  · rw [← hp]; exact h
  · rw [← hp]; exact hr

/-- the acts: after k operations -/
def actAt (l : List Oper) (F : Nat → Value) (a : Act) : Nat → Act
  | 0 => a
  | k + 1 => match l[k]? with
    | none => actAt l F a k
    | some o => (actAt l F a k).put o.dst (F k)

theorem actAt_cons (o : Oper) (l : List Oper) (F : Nat → Value) (a : Act) : ∀ k, actAt (o :: l) F a (k + 1) = actAt l (fun i => F (i + 1)) (a.put o.dst (F 0)) k
  | 0 => by simp [actAt]
  | k + 1 => by
    have ih := actAt_cons o l F a k
    show (match (o :: l)[k + 1]? with | none => actAt (o :: l) F a (k + 1) | some o' => (actAt (o :: l) F a (k + 1)).put o'.dst (F (k + 1))) = _
    rw [ih]
    simp [actAt]

theorem chain_acts {K : Act → Prop} : ∀ (l : List Oper) (a : Act), chain P ops S K l a → ∃ F : Nat → Value, K (actAt l F a l.length) ∧ ∀ k o, l[k]? = some o → does1 P ops S o (actAt l F a k) (actAt l F a (k + 1))
  | [], a, .nil h => ⟨fun _ => undef, h, fun k o hk => by simp at hk⟩
  | o :: l, a, .cons v h1 h2 => by
    obtain ⟨F, hK, hF⟩ := chain_acts l (a.put o.dst v) h2
    refine ⟨fun i => match i with | 0 => v | i + 1 => F i, ?_, fun k o' hk => ?_⟩
    · rw [List.length_cons, actAt_cons]
      exact hK
    · cases k with
      | zero =>
        simp at hk
        subst hk
        simpa [actAt] using h1
      | succ k =>
        have := hF k o' (by simpa using hk)
        rw [actAt_cons, actAt_cons]
        exact this

theorem put_size (a : Act) (x : Option Tmp) (v : Value) : (a.put x v).tmps.size = a.tmps.size := by cases x <;> simp [Act.put]
theorem put_defers' (a : Act) (x : Option Tmp) (v : Value) : (a.put x v).defers = a.defers := by cases x <;> rfl
theorem put_other (a : Act) (x : Option Tmp) (v : Value) (t : Tmp) (h : x ≠ some t) : (a.put x v).tmps[t]? = a.tmps[t]? := by
  cases x with
  | none => rfl
  | some d => exact Array.getElem?_setIfInBounds_ne (fun e => h (by rw [e]))
theorem put_same {a b : Act} {x : Option Tmp} {v u : Value} (h : a.put x u = a.put x v) (hs : a.tmps.size = b.tmps.size) : b.put x u = b.put x v := by
  cases x with
  | none => rfl
  | some d =>
    rcases Nat.lt_or_ge d a.tmps.size with hd | hd
    · have h1 := congrArg (fun z : Act => z.tmps[d]?) h
      simp only [Act.put, Array.getElem?_setIfInBounds_self_of_lt hd, Option.some.injEq] at h1
      rw [h1]
    · have hb : b.tmps.size ≤ d := by omega
      simp [Act.put, Array.setIfInBounds_eq_of_size_le hb]
theorem put_at {a b : Act} {d : Tmp} {v : Value} (hs : a.tmps.size = b.tmps.size) : (a.put (some d) v).tmps[d]? = (b.put (some d) v).tmps[d]? := by
  simp [Act.put, hs, Array.getElem?_setIfInBounds]

theorem actAt_size (l : List Oper) (F : Nat → Value) (a : Act) : ∀ k, (actAt l F a k).tmps.size = a.tmps.size
  | 0 => rfl
  | k + 1 => by
    unfold actAt
    cases l[k]? <;> simp [put_size, actAt_size l F a k]
theorem actAt_defers (l : List Oper) (F : Nat → Value) (a : Act) : ∀ k, (actAt l F a k).defers = a.defers
  | 0 => rfl
  | k + 1 => by
    unfold actAt
    cases l[k]? <;> simp [put_defers', actAt_defers l F a k]
/-- a slot that nobody writes between -/
theorem actAt_still (l : List Oper) (F : Nat → Value) (a : Act) (t : Tmp) (k : Nat) : ∀ n, (∀ i o, k ≤ i → i < k + n → l[i]? = some o → o.dst ≠ some t) → (actAt l F a (k + n)).tmps[t]? = (actAt l F a k).tmps[t]?
  | 0, _ => rfl
  | n + 1, h => by
    rw [← Nat.add_assoc]
    have ih := actAt_still l F a t k n (fun i o h1 h2 h3 => h i o h1 (by omega) h3)
    show (match l[k + n]? with | none => actAt l F a (k + n) | some o => (actAt l F a (k + n)).put o.dst (F (k + n))).tmps[t]? = _
    cases ho : l[k + n]? with
    | none => exact ih
    | some o => rw [← ih]; exact put_other _ _ _ _ (h (k + n) o (by omega) (by omega) ho)

/-- where the walk stands: what is listed has its value; the rest is as it was -/
structure Stands (l : List Oper) (F : Nat → Value) (a0 : Act) (listed : Array Bool) (a : Act) : Prop where
  defers : a.defers = a0.defers
  size : a.tmps.size = a0.tmps.size
  yes : ∀ i o t, l[i]? = some o → o.dst = some t → listed.getD i true = true → a.tmps[t]? = (actAt l F a0 l.length).tmps[t]?
  no : ∀ t, (∀ i o, l[i]? = some o → o.dst = some t → listed.getD i true = false) → a.tmps[t]? = a0.tmps[t]?

theorem exists_least {p : Nat → Bool} : ∀ n, p n = true → ∃ m, m ≤ n ∧ p m = true ∧ ∀ k, k < m → p k = false
  | n, h => by
    induction n using Nat.strongRecOn with
    | ind n ih =>
      by_cases hx : ∃ k, k < n ∧ p k = true
      · obtain ⟨k, hk, hp⟩ := hx
        obtain ⟨m, hm, h1, h2⟩ := ih k hk hp
        exact ⟨m, by omega, h1, h2⟩
      · exact ⟨n, Nat.le_refl _, h, fun k hk => by
          cases hp : p k with
          | false => rfl
          | true => exact absurd ⟨k, hk, hp⟩ hx⟩

theorem ready_none {listed : Array Bool} (ho : orderly ops = true) (h : Region.ready .any ops listed = []) (hs : listed.size = ops.size) : ∀ i, i < ops.size → listed.getD i true = true := by
  intro i hi
  cases hx : listed.getD i true with
  | true => rfl
  | false =>
    exfalso
    obtain ⟨m, hm, h1, h2⟩ := exists_least (p := fun k => !listed.getD k true) i (by simp only [hx]; rfl)
    have hml : m < ops.size := by omega
    have hrd : m ∈ Region.ready .any ops listed := by
      rw [mem_ready]
      refine ⟨by simpa using h1, ops[m], by simp [hml], fun e he hb => ?_⟩
      have hlt := (orderly_spec ho (j := m) (oj := ops[m]) (by simp [hml])).1 e he hb
      have h3 := h2 e.on hlt
      have hel : e.on < listed.size := by omega
      simp [hel] at h3 ⊢
      exact h3
    rw [h] at hrd
    cases hrd

variable {Q : Exit → Act → World → Prop}
theorem does1_wpOp {j : Nat} {o : Oper} {A A1 a : Act} {K : Act → World → Prop} {v : Value} (hj : ops[j]? = some o) (hs : ∀ cs b, o.op ≠ .select cs b)
    (h : does1 P ops S o A A1) (hA : A1 = A.put o.dst v) (hlook : ∀ t ∈ o.looksAt ops, A.tmps[t]? = a.tmps[t]?) (hsz : A.tmps.size = a.tmps.size) {w : World} (hS : S w)
    (hK : ∀ w', S w' → K (a.put o.dst v) w') : wpOp P ops Q j K a w := by
  obtain ⟨he, hw⟩ := look_congr o hs A a hlook
  have h1 := h w hS
  unfold wpOp
  simp only [hj]
  unfold wpList at h1
  rw [hw] at h1
  split
  · rename_i hwt
    rw [if_pos hwt] at h1
    refine .inl ?_
    rcases h1 with h1 | ⟨_, a', w', h1, _⟩
    case inr => cases h1
    unfold Oper.wp at *
    rw [he] at h1
    have fin : ∀ u w', wpList P ops (settled S A1) [] (A.put o.dst u) w' → K (a.put o.dst u) w' := fun u w' h2 => by
      obtain ⟨_, h3, h4⟩ := h2
      rw [hA] at h3
      rw [put_same h3 hsz]
      exact hK w' h4
    generalize (execOp a.eval o).run P w = r at *
    cases r with
    | ok n w' =>
      cases n <;> simp only [Oper.upon] at h1 ⊢
      case value u => exact fin u w' h1
      case skip => exact fin undef w' h1
      case defer d =>
        obtain ⟨_, h3, _⟩ := h1
        rw [hA] at h3
        have := congrArg Act.defers h3
        rw [put_defers', put_defers'] at this
        exact absurd (congrArg List.length this) (by simp)
      case enter f args =>
        refine Calls.mono h1 fun e w'' he => ?_
        cases e with
        | returned u => exact fin u w'' he
        | panicked c => exact absurd he.1 (by simp)
        | outgrown => obtain ⟨a', w', h2, _⟩ := he; cases h2
      case row row args => exact Rows.mono h1 fun u w'' he => fin u w'' he
    | halt x w' =>
      cases x <;> simp only [Oper.upon] at h1 ⊢
      case panic u => exact absurd h1.1 (by simp)
  · rename_i hwt
    rw [if_neg hwt] at h1
    obtain ⟨_, h3, h4⟩ := h1
    rw [hA] at h3
    rw [put_same h3 hsz]
    exact hK w h4

theorem wpAny_chain {l : List Oper} {F : Nat → Value} {a0 : Act} (ho : orderly l.toArray = true)
    (hF : ∀ k o, l[k]? = some o → does1 P l.toArray S o (actAt l F a0 k) (actAt l F a0 (k + 1)))
    (hK : ∀ w, S w → Q .normal (actAt l F a0 l.length) w) :
    ∀ (fuel : Nat) (listed : Array Bool) (a : Act) (w : World), listed.size = l.length → (listed.toList.countP (· == false)) = fuel → Stands l F a0 listed a → S w → wpAny P .any l.toArray Q fuel listed a w := by
  have hsel := Region.noSelect_spec (ops := l.toArray) (by unfold orderly at ho; exact (Bool.and_eq_true _ _ ▸ ho).1)
  have wr : ∀ (i j : Nat) (o o' : Oper) (t : Tmp), l[i]? = some o → l[j]? = some o' → o.dst = some t → o'.dst = some t → i = j := fun i j o o' t hi hj h1 h2 => by
    rcases Nat.lt_trichotomy i j with h | h | h
    · exact absurd h2 (((orderly_spec ho (j := j) (oj := o') (by simpa using hj)).2 i o t (by simpa using hi) h1).1 (by omega))
    · exact h
    · exact absurd h2 (((orderly_spec ho (j := j) (oj := o') (by simpa using hj)).2 i o t (by simpa using hi) h1).1 (by omega))
  have done : ∀ (listed : Array Bool) (a : Act) (w : World), listed.size = l.length → (∀ i, i < l.length → listed.getD i true = true) → Stands l F a0 listed a → S w → Q .normal a w := fun listed a w hsz hall hst hS => by
    have : a = actAt l F a0 l.length := by
      have e1 : a.tmps = (actAt l F a0 l.length).tmps := by
        have pt : ∀ t : Nat, a.tmps[t]? = (actAt l F a0 l.length).tmps[t]? := fun t => by
          by_cases hx : ∃ (i : Nat) (o : Oper), l[i]? = some o ∧ o.dst = some t
          · obtain ⟨i, o, hi, hd⟩ := hx
            exact hst.yes i o t hi hd (hall i (List.getElem?_eq_some_iff.1 hi).1)
          · have h1 := hst.no t (fun i o hi hd => absurd ⟨i, o, hi, hd⟩ hx)
            have h2 := actAt_still l F a0 t 0 l.length (fun i o _ _ hi hd => hx ⟨i, o, hi, hd⟩)
            rw [Nat.zero_add] at h2
            rw [h1, h2]
            rfl
        apply Array.ext_getElem?
        intro t
        exact pt t
      have e2 : a.defers = (actAt l F a0 l.length).defers := by rw [hst.defers, actAt_defers]
      cases a
      simp only at e1 e2
      rw [e1, e2]
    rw [this]
    exact hK w hS
  intro fuel
  induction fuel with
  | zero =>
    intro listed a w hsz hc hst hS
    have hall : ∀ i, i < l.length → listed.getD i true = true := fun i hi => by
      rw [List.countP_eq_zero] at hc
      have hil : i < listed.size := by omega
      have := hc listed[i] (by simp)
      simp [hil] at this ⊢
      exact this
    refine ⟨?_, done listed a w hsz hall hst hS⟩
    cases hr : Region.ready .any l.toArray listed with
    | nil => rfl
    | cons x xs =>
      have hm : x ∈ Region.ready .any l.toArray listed := by rw [hr]; exact List.mem_cons_self
      obtain ⟨h1, o, h2, _⟩ := mem_ready.1 hm
      rw [hall x (by have := (Array.getElem?_eq_some_iff.1 h2).1; simpa using this)] at h1
      cases h1
  | succ fuel ih =>
    intro listed a w hsz hc hst hS
    refine ⟨fun hr => done listed a w hsz (fun i hi => ready_none ho hr (by simpa using hsz) i (by simpa using hi)) hst hS, fun j hj => ?_⟩
    obtain ⟨hjun, oj, hoj, hdeps⟩ := mem_ready.1 hj
    have hlj : l[j]? = some oj := by simpa using hoj
    have hjl : j < l.length := (List.getElem?_eq_some_iff.1 hlj).1
    have hA : actAt l F a0 (j + 1) = (actAt l F a0 j).put oj.dst (F j) := by
      show (match l[j]? with | none => _ | some o => _) = _
      rw [hlj]
    obtain ⟨hlt, hsp⟩ := orderly_spec ho hoj
    have still : ∀ (i : Nat) (o : Oper) (t : Tmp), l[i]? = some o → o.dst = some t → ∀ k, i < k → k ≤ l.length → (actAt l F a0 l.length).tmps[t]? = (actAt l F a0 k).tmps[t]? := fun i o t hi hd k hk hkl => by
      have := actAt_still l F a0 t k (l.length - k) (fun i' o' h1 _ h3 h4 => by have := wr i i' o o' t hi h3 hd h4; omega)
      rw [← this, show k + (l.length - k) = l.length from by omega]
    refine does1_wpOp hoj (fun cs b => hsel j oj cs b hoj) (hF j oj hlj) hA (fun t ht => ?_) (by rw [actAt_size, hst.size]) hS (fun w' hS' => ?_)
    · by_cases hx : ∃ (i : Nat) (o : Oper), l[i]? = some o ∧ o.dst = some t
      · obtain ⟨i, o, hi, hd⟩ := hx
        obtain ⟨e, he, heq, hb⟩ := (hsp i o t (by simpa using hi) hd).2 ht
        have hl := hdeps e he hb
        rw [heq] at hl
        have hij : i < j := by have := hlt e he hb; omega
        have hil : i < listed.size := by omega
        rw [hst.yes i o t hi hd (by simp [hil] at hl ⊢; exact hl)]
        exact (still i o t hi hd j hij (by omega)).symm
      · rw [hst.no t (fun i o hi hd => absurd ⟨i, o, hi, hd⟩ hx)]
        have h2 := actAt_still l F a0 t 0 j (fun i o _ _ hi hd => hx ⟨i, o, hi, hd⟩)
        rw [Nat.zero_add] at h2
        exact h2
    · have hjl' : j < listed.size := by omega
      have hjf : listed[j] = false := by simpa [hjl'] using hjun
      refine ih (listed.setIfInBounds j true) _ w' (by simpa using hsz) ?_ ⟨by rw [put_defers', hst.defers], by rw [put_size, hst.size], fun i o t hi hd hl => ?_, fun t hno => ?_⟩ hS'
      · rw [Array.setIfInBounds, dif_pos hjl', Array.toList_set, List.countP_set (by simpa using hjl')]
        rw [hc]
        simp [hjf]
      · by_cases hij : i = j
        · subst hij
          rw [hlj] at hi
          injection hi with hi
          subst hi
          rw [still i oj t hlj hd (i + 1) (by omega) (by omega), hA, hd]
          exact put_at (by rw [actAt_size, hst.size])
        · have hne : oj.dst ≠ some t := fun hd' => hij (wr i j o oj t hi hlj hd hd')
          rw [put_other _ _ _ _ hne]
          exact hst.yes i o t hi hd (by rw [getD_set_ne true (Ne.symm hij)] at hl; exact hl)
      · have hne : oj.dst ≠ some t := fun hd' => by
          have := hno j oj hlj hd'
          simp [hjl'] at this
        rw [put_other _ _ _ _ hne]
        refine hst.no t fun i o hi hd => ?_
        have h1 := hno i o hi hd
        by_cases hij : i = j
        · subst hij; simp [hjl'] at h1
        · rw [getD_set_ne true (Ne.symm hij)] at h1; exact h1

/-- **A drawn region, in the order of its text**, if in whatever right world each operation leaves the same, and a right world. -/
theorem wp_region_chain {id : Nat} {l : List Oper} {a : Act} {w : World} (S : World → Prop) (hm : P.follows .mixedOrders = true) (ho : orderly l.toArray = true) (hS : S w.drew)
    (h : chain P l.toArray S (fun a' => ∀ w', S w' → Q .normal a' w') l a) : (Code.region id l.toArray true).wp P Q a w := by
  obtain ⟨F, hK, hF⟩ := chain_acts l a h
  refine wp_region_any hm ?_
  refine wpAny_chain ho hF hK _ _ a _ (by simp) (by simp [List.countP_replicate]) ⟨rfl, rfl, fun i o t hi _ hl => ?_, fun _ _ => rfl⟩ hS
  have : i < l.length := (List.getElem?_eq_some_iff.1 hi).1
  simp [this] at hl
end
end Go.Proofs.YtpbflgemhcaooaaDoor
