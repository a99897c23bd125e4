import Derived.Test.YtljcgcllhcdleaaMo1
import Derived.OrdersHeld
import Derived.Deep.RegionHeld
import Derived.StillTail
import Derived.BigQuiet
import Derived.Deep.QuietTactic
import Derived.WalkSmall
import Derived.Test.YtljcgcllhcdleaaMo5
import Derived.Test.YtljcgcllhcdleaaMo6
/- A drawn region whose operations leave the same values in whatever order: it is walked once, in the order of its text. -/
namespace Go.Proofs.Ytljcgcllhcdleaa
open Go.RowKit

/-- every operation waits for those whose slots it looks at; no slot is written twice; the text's order is one of those that may be -/
def orderly (ops : Array Oper) : Bool :=
  Region.noSelect ops && (List.range ops.size).all fun j => match ops[j]? with
    | none => true
    | some oj => oj.after.all (fun e => !Region.binds .any e || decide (e.on < j)) && (List.range ops.size).all fun i => match ops[i]? with
      | none => true
      | some oi => match oi.dst with
        | none => true
        | some d => (i == j || oj.dst != some d) && (!(oj.looksAt ops).contains d || oj.after.any (fun e => e.on == i && Region.binds .any e))

theorem orderly_spec {ops : Array Oper} (h : orderly ops = true) {j : Nat} {oj : Oper} (hj : ops[j]? = some oj) :
    (∀ e ∈ oj.after, Region.binds .any e = true → e.on < j) ∧ ∀ i oi d, ops[i]? = some oi → oi.dst = some d → (i ≠ j → oj.dst ≠ some d) ∧ (d ∈ oj.looksAt ops → ∃ e ∈ oj.after, e.on = i ∧ Region.binds .any e = true) := by
  unfold orderly at h
  rw [Bool.and_eq_true, List.all_eq_true] at h
  have h1 := h.2 j (by rw [List.mem_range]; exact (Array.getElem?_eq_some_iff.1 hj).1)
  simp only [hj, Bool.and_eq_true, Array.all_eq_true_iff_forall_mem, List.all_eq_true, Bool.or_eq_true, Bool.not_eq_true', decide_eq_true_eq] at h1
  refine ⟨fun e he hb => (h1.1 e he).resolve_left (by simp [hb]), fun i oi d hi hd => ?_⟩
  have h2 := h1.2 i (by rw [List.mem_range]; exact (Array.getElem?_eq_some_iff.1 hi).1)
  simp only [hi, hd, Bool.and_eq_true, Bool.or_eq_true, beq_iff_eq, bne_iff_ne, ne_eq, Bool.not_eq_true'] at h2
  refine ⟨fun hne => h2.1.resolve_left hne, fun hm => ?_⟩
  rcases h2.2 with h3 | h3
  · rw [List.contains_eq_mem] at h3
    exact absurd hm (by simpa using h3)
  · obtain ⟨e, he, hb⟩ := Array.any_eq_true'.1 h3
    exact ⟨e, he, by simpa using hb⟩

/-- what an operation does hangs on the slots that it looks at -/
theorem look_congr {ops : Array Oper} (o : Oper) (hs : ∀ cs b, o.op ≠ .select cs b) (a b : Act) (h : ∀ t ∈ o.looksAt ops, a.tmps[t]? = b.tmps[t]?) :
    execOp a.eval o = execOp b.eval o ∧ Region.wanted o (yielded ops a.tmps) = Region.wanted o (yielded ops b.tmps) := by
  constructor
  · refine execOp_congr o hs fun x hx => ?_
    cases x with
    | tmp t =>
      have := h t (by
        unfold Oper.looksAt
        rw [List.mem_append, List.mem_filterMap]
        exact .inl ⟨.tmp t, by simpa using hx, rfl⟩)
      simp [Act.eval, Array.getD_eq_getD_getElem?, this]
    | _ => rfl
  · unfold Region.wanted
    cases hg : o.guard with
    | none => rfl
    | some gw =>
      obtain ⟨g, want⟩ := gw
      have hy : yielded ops a.tmps g = yielded ops b.tmps g := by
        unfold yielded
        cases ht : (ops[g]?).bind (·.dst) with
        | none => rfl
        | some t =>
          have := h t (by simp [Oper.looksAt, hg, ht])
          simp [this]
      simp only [hy]

section
variable {P : Program} {ops : Array Oper} {S : World → Prop}

/-- the way out: a1, and a right world -/
def settled (S : World → Prop) (a1 : Act) : Exit → Act → World → Prop := fun e a' w' => e = .normal ∧ a' = a1 ∧ S w'
theorem settled_intro {a1 : Act} {w : World} (h : S w) : settled S a1 .normal a1 w := ⟨rfl, rfl, h⟩

/-- one operation, from every world that is right, leaves what is to be left, and a right world -/
def does1 (P : Program) (ops : Array Oper) (S : World → Prop) (o : Oper) (a a1 : Act) : Prop :=
  ∀ w, S w → wpList P ops (settled S a1) [o] a w

/-- the acts of the text's order -/
inductive chain (P : Program) (ops : Array Oper) (S : World → Prop) (K : Act → Prop) : List Oper → Act → Prop
  | nil {a : Act} : K a → chain P ops S K [] a
  | cons {o : Oper} {rest : List Oper} {a : Act} (v : Value) : does1 P ops S o a (a.put o.dst v) → chain P ops S K rest (a.put o.dst v) → chain P ops S K (o :: rest) a

theorem chain_cons {K : Act → Prop} {o : Oper} {rest : List Oper} {a a1 : Act} (h : does1 P ops S o a a1) (hp : a1 = a.put o.dst (a1.eval (.tmp (o.dst.getD 0)))) (hr : chain P ops S K rest a1) : chain P ops S K (o :: rest) a := by
  refine .cons (a1.eval (.tmp (o.dst.getD 0))) ?_ ?_
  · rw [← hp]; exact h
  · rw [← hp]; exact hr

/-- the acts: after k operations -/
def actAt (l : List Oper) (F : Nat → Value) (a : Act) : Nat → Act
  | 0 => a
  | k + 1 => match l[k]? with
    | none => actAt l F a k
    | some o => (actAt l F a k).put o.dst (F k)

theorem actAt_cons (o : Oper) (l : List Oper) (F : Nat → Value) (a : Act) : ∀ k, actAt (o :: l) F a (k + 1) = actAt l (fun i => F (i + 1)) (a.put o.dst (F 0)) k
  | 0 => by simp [actAt]
  | k + 1 => by
    have ih := actAt_cons o l F a k
    show (match (o :: l)[k + 1]? with | none => actAt (o :: l) F a (k + 1) | some o' => (actAt (o :: l) F a (k + 1)).put o'.dst (F (k + 1))) = _
    rw [ih]
    simp [actAt]

theorem chain_acts {K : Act → Prop} : ∀ (l : List Oper) (a : Act), chain P ops S K l a → ∃ F : Nat → Value, K (actAt l F a l.length) ∧ ∀ k o, l[k]? = some o → does1 P ops S o (actAt l F a k) (actAt l F a (k + 1))
  | [], a, .nil h => ⟨fun _ => undef, h, fun k o hk => by simp at hk⟩
  | o :: l, a, .cons v h1 h2 => by
    obtain ⟨F, hK, hF⟩ := chain_acts l (a.put o.dst v) h2
    refine ⟨fun i => match i with | 0 => v | i + 1 => F i, ?_, fun k o' hk => ?_⟩
    · rw [List.length_cons, actAt_cons]
      exact hK
    · cases k with
      | zero =>
        simp at hk
        subst hk
        simpa [actAt] using h1
      | succ k =>
        have := hF k o' (by simpa using hk)
        rw [actAt_cons, actAt_cons]
        exact this

theorem put_size (a : Act) (x : Option Tmp) (v : Value) : (a.put x v).tmps.size = a.tmps.size := by cases x <;> simp [Act.put]
theorem put_defers' (a : Act) (x : Option Tmp) (v : Value) : (a.put x v).defers = a.defers := by cases x <;> rfl
theorem put_other (a : Act) (x : Option Tmp) (v : Value) (t : Tmp) (h : x ≠ some t) : (a.put x v).tmps[t]? = a.tmps[t]? := by
  cases x with
  | none => rfl
  | some d => exact Array.getElem?_setIfInBounds_ne (fun e => h (by rw [e]))
theorem put_same {a b : Act} {x : Option Tmp} {v u : Value} (h : a.put x u = a.put x v) (hs : a.tmps.size = b.tmps.size) : b.put x u = b.put x v := by
  cases x with
  | none => rfl
  | some d =>
    rcases Nat.lt_or_ge d a.tmps.size with hd | hd
    · have h1 := congrArg (fun z : Act => z.tmps[d]?) h
      simp only [Act.put, Array.getElem?_setIfInBounds_self_of_lt hd, Option.some.injEq] at h1
      rw [h1]
    · have hb : b.tmps.size ≤ d := by omega
      simp [Act.put, Array.setIfInBounds_eq_of_size_le hb]
theorem put_at {a b : Act} {d : Tmp} {v : Value} (hs : a.tmps.size = b.tmps.size) : (a.put (some d) v).tmps[d]? = (b.put (some d) v).tmps[d]? := by
  simp [Act.put, hs, Array.getElem?_setIfInBounds]

theorem actAt_size (l : List Oper) (F : Nat → Value) (a : Act) : ∀ k, (actAt l F a k).tmps.size = a.tmps.size
  | 0 => rfl
  | k + 1 => by
    unfold actAt
    cases l[k]? <;> simp [put_size, actAt_size l F a k]
theorem actAt_defers (l : List Oper) (F : Nat → Value) (a : Act) : ∀ k, (actAt l F a k).defers = a.defers
  | 0 => rfl
  | k + 1 => by
    unfold actAt
    cases l[k]? <;> simp [put_defers', actAt_defers l F a k]
/-- a slot that nobody writes between -/
theorem actAt_still (l : List Oper) (F : Nat → Value) (a : Act) (t : Tmp) (k : Nat) : ∀ n, (∀ i o, k ≤ i → i < k + n → l[i]? = some o → o.dst ≠ some t) → (actAt l F a (k + n)).tmps[t]? = (actAt l F a k).tmps[t]?
  | 0, _ => rfl
  | n + 1, h => by
    rw [← Nat.add_assoc]
    have ih := actAt_still l F a t k n (fun i o h1 h2 h3 => h i o h1 (by omega) h3)
    show (match l[k + n]? with | none => actAt l F a (k + n) | some o => (actAt l F a (k + n)).put o.dst (F (k + n))).tmps[t]? = _
    cases ho : l[k + n]? with
    | none => exact ih
    | some o => rw [← ih]; exact put_other _ _ _ _ (h (k + n) o (by omega) (by omega) ho)

/-- where the walk stands: what is listed has its value; the rest is as it was -/
structure Stands (l : List Oper) (F : Nat → Value) (a0 : Act) (listed : Array Bool) (a : Act) : Prop where
  defers : a.defers = a0.defers
  size : a.tmps.size = a0.tmps.size
  yes : ∀ i o t, l[i]? = some o → o.dst = some t → listed.getD i true = true → a.tmps[t]? = (actAt l F a0 l.length).tmps[t]?
  no : ∀ t, (∀ i o, l[i]? = some o → o.dst = some t → listed.getD i true = false) → a.tmps[t]? = a0.tmps[t]?

theorem exists_least {p : Nat → Bool} : ∀ n, p n = true → ∃ m, m ≤ n ∧ p m = true ∧ ∀ k, k < m → p k = false
  | n, h => by
    induction n using Nat.strongRecOn with
    | ind n ih =>
      by_cases hx : ∃ k, k < n ∧ p k = true
      · obtain ⟨k, hk, hp⟩ := hx
        obtain ⟨m, hm, h1, h2⟩ := ih k hk hp
        exact ⟨m, by omega, h1, h2⟩
      · exact ⟨n, Nat.le_refl _, h, fun k hk => by
          cases hp : p k with
          | false => rfl
          | true => exact absurd ⟨k, hk, hp⟩ hx⟩

theorem ready_none {listed : Array Bool} (ho : orderly ops = true) (h : Region.ready .any ops listed = []) (hs : listed.size = ops.size) : ∀ i, i < ops.size → listed.getD i true = true := by
  intro i hi
  cases hx : listed.getD i true with
  | true => rfl
  | false =>
    exfalso
    obtain ⟨m, hm, h1, h2⟩ := exists_least (p := fun k => !listed.getD k true) i (by simp only [hx]; rfl)
    have hml : m < ops.size := by omega
    have hrd : m ∈ Region.ready .any ops listed := by
      rw [mem_ready]
      refine ⟨by simpa using h1, ops[m], by simp [hml], fun e he hb => ?_⟩
      have hlt := (orderly_spec ho (j := m) (oj := ops[m]) (by simp [hml])).1 e he hb
      have h3 := h2 e.on hlt
      have hel : e.on < listed.size := by omega
      simp [hel] at h3 ⊢
      exact h3
    rw [h] at hrd
    cases hrd

variable {Q : Exit → Act → World → Prop}
theorem does1_wpOp {j : Nat} {o : Oper} {A A1 a : Act} {K : Act → World → Prop} {v : Value} (hj : ops[j]? = some o) (hs : ∀ cs b, o.op ≠ .select cs b)
    (h : does1 P ops S o A A1) (hA : A1 = A.put o.dst v) (hlook : ∀ t ∈ o.looksAt ops, A.tmps[t]? = a.tmps[t]?) (hsz : A.tmps.size = a.tmps.size) {w : World} (hS : S w)
    (hK : ∀ w', S w' → K (a.put o.dst v) w') : wpOp P ops Q j K a w := by
  obtain ⟨he, hw⟩ := look_congr o hs A a hlook
  have h1 := h w hS
  unfold wpOp
  simp only [hj]
  unfold wpList at h1
  rw [hw] at h1
  split
  · rename_i hwt
    rw [if_pos hwt] at h1
    refine .inl ?_
    rcases h1 with h1 | ⟨_, a', w', h1, _⟩
    case inr => cases h1
    unfold Oper.wp at *
    rw [he] at h1
    have fin : ∀ u w', wpList P ops (settled S A1) [] (A.put o.dst u) w' → K (a.put o.dst u) w' := fun u w' h2 => by
      obtain ⟨_, h3, h4⟩ := h2
      rw [hA] at h3
      rw [put_same h3 hsz]
      exact hK w' h4
    generalize (execOp a.eval o).run P w = r at *
    cases r with
    | ok n w' =>
      cases n <;> simp only [Oper.upon] at h1 ⊢
      case value u => exact fin u w' h1
      case skip => exact fin undef w' h1
      case defer d =>
        obtain ⟨_, h3, _⟩ := h1
        rw [hA] at h3
        have := congrArg Act.defers h3
        rw [put_defers', put_defers'] at this
        exact absurd (congrArg List.length this) (by simp)
      case enter f args =>
        refine Calls.mono h1 fun e w'' he => ?_
        cases e with
        | returned u => exact fin u w'' he
        | panicked c => exact absurd he.1 (by simp)
        | outgrown => obtain ⟨a', w', h2, _⟩ := he; cases h2
      case row row args => exact Rows.mono h1 fun u w'' he => fin u w'' he
    | halt x w' =>
      cases x <;> simp only [Oper.upon] at h1 ⊢
      case panic u => exact absurd h1.1 (by simp)
  · rename_i hwt
    rw [if_neg hwt] at h1
    obtain ⟨_, h3, h4⟩ := h1
    rw [hA] at h3
    rw [put_same h3 hsz]
    exact hK w h4

theorem wpAny_chain {l : List Oper} {F : Nat → Value} {a0 : Act} (ho : orderly l.toArray = true)
    (hF : ∀ k o, l[k]? = some o → does1 P l.toArray S o (actAt l F a0 k) (actAt l F a0 (k + 1)))
    (hK : ∀ w, S w → Q .normal (actAt l F a0 l.length) w) :
    ∀ (fuel : Nat) (listed : Array Bool) (a : Act) (w : World), listed.size = l.length → (listed.toList.countP (· == false)) = fuel → Stands l F a0 listed a → S w → wpAny P .any l.toArray Q fuel listed a w := by
  have hsel := Region.noSelect_spec (ops := l.toArray) (by unfold orderly at ho; exact (Bool.and_eq_true _ _ ▸ ho).1)
  have wr : ∀ (i j : Nat) (o o' : Oper) (t : Tmp), l[i]? = some o → l[j]? = some o' → o.dst = some t → o'.dst = some t → i = j := fun i j o o' t hi hj h1 h2 => by
    rcases Nat.lt_trichotomy i j with h | h | h
    · exact absurd h2 (((orderly_spec ho (j := j) (oj := o') (by simpa using hj)).2 i o t (by simpa using hi) h1).1 (by omega))
    · exact h
    · exact absurd h2 (((orderly_spec ho (j := j) (oj := o') (by simpa using hj)).2 i o t (by simpa using hi) h1).1 (by omega))
  have done : ∀ (listed : Array Bool) (a : Act) (w : World), listed.size = l.length → (∀ i, i < l.length → listed.getD i true = true) → Stands l F a0 listed a → S w → Q .normal a w := fun listed a w hsz hall hst hS => by
    have : a = actAt l F a0 l.length := by
      have e1 : a.tmps = (actAt l F a0 l.length).tmps := by
        have pt : ∀ t : Nat, a.tmps[t]? = (actAt l F a0 l.length).tmps[t]? := fun t => by
          by_cases hx : ∃ (i : Nat) (o : Oper), l[i]? = some o ∧ o.dst = some t
          · obtain ⟨i, o, hi, hd⟩ := hx
            exact hst.yes i o t hi hd (hall i (List.getElem?_eq_some_iff.1 hi).1)
          · have h1 := hst.no t (fun i o hi hd => absurd ⟨i, o, hi, hd⟩ hx)
            have h2 := actAt_still l F a0 t 0 l.length (fun i o _ _ hi hd => hx ⟨i, o, hi, hd⟩)
            rw [Nat.zero_add] at h2
            rw [h1, h2]
            rfl
        apply Array.ext_getElem?
        intro t
        exact pt t
      have e2 : a.defers = (actAt l F a0 l.length).defers := by rw [hst.defers, actAt_defers]
      cases a
      simp only at e1 e2
      rw [e1, e2]
    rw [this]
    exact hK w hS
  intro fuel
  induction fuel with
  | zero =>
    intro listed a w hsz hc hst hS
    have hall : ∀ i, i < l.length → listed.getD i true = true := fun i hi => by
      rw [List.countP_eq_zero] at hc
      have hil : i < listed.size := by omega
      have := hc listed[i] (by simp)
      simp [hil] at this ⊢
      exact this
    refine ⟨?_, done listed a w hsz hall hst hS⟩
    cases hr : Region.ready .any l.toArray listed with
    | nil => rfl
    | cons x xs =>
      have hm : x ∈ Region.ready .any l.toArray listed := by rw [hr]; exact List.mem_cons_self
      obtain ⟨h1, o, h2, _⟩ := mem_ready.1 hm
      rw [hall x (by have := (Array.getElem?_eq_some_iff.1 h2).1; simpa using this)] at h1
      cases h1
  | succ fuel ih =>
    intro listed a w hsz hc hst hS
    refine ⟨fun hr => done listed a w hsz (fun i hi => ready_none ho hr (by simpa using hsz) i (by simpa using hi)) hst hS, fun j hj => ?_⟩
    obtain ⟨hjun, oj, hoj, hdeps⟩ := mem_ready.1 hj
    have hlj : l[j]? = some oj := by simpa using hoj
    have hjl : j < l.length := (List.getElem?_eq_some_iff.1 hlj).1
    have hA : actAt l F a0 (j + 1) = (actAt l F a0 j).put oj.dst (F j) := by
      show (match l[j]? with | none => _ | some o => _) = _
      rw [hlj]
    obtain ⟨hlt, hsp⟩ := orderly_spec ho hoj
    have still : ∀ (i : Nat) (o : Oper) (t : Tmp), l[i]? = some o → o.dst = some t → ∀ k, i < k → k ≤ l.length → (actAt l F a0 l.length).tmps[t]? = (actAt l F a0 k).tmps[t]? := fun i o t hi hd k hk hkl => by
      have := actAt_still l F a0 t k (l.length - k) (fun i' o' h1 _ h3 h4 => by have := wr i i' o o' t hi h3 hd h4; omega)
      rw [← this, show k + (l.length - k) = l.length from by omega]
    refine does1_wpOp hoj (fun cs b => hsel j oj cs b hoj) (hF j oj hlj) hA (fun t ht => ?_) (by rw [actAt_size, hst.size]) hS (fun w' hS' => ?_)
    · by_cases hx : ∃ (i : Nat) (o : Oper), l[i]? = some o ∧ o.dst = some t
      · obtain ⟨i, o, hi, hd⟩ := hx
        obtain ⟨e, he, heq, hb⟩ := (hsp i o t (by simpa using hi) hd).2 ht
        have hl := hdeps e he hb
        rw [heq] at hl
        have hij : i < j := by have := hlt e he hb; omega
        have hil : i < listed.size := by omega
        rw [hst.yes i o t hi hd (by simp [hil] at hl ⊢; exact hl)]
        exact (still i o t hi hd j hij (by omega)).symm
      · rw [hst.no t (fun i o hi hd => absurd ⟨i, o, hi, hd⟩ hx)]
        have h2 := actAt_still l F a0 t 0 j (fun i o _ _ hi hd => hx ⟨i, o, hi, hd⟩)
        rw [Nat.zero_add] at h2
        exact h2
    · have hjl' : j < listed.size := by omega
      have hjf : listed[j] = false := by simpa [hjl'] using hjun
      refine ih (listed.setIfInBounds j true) _ w' (by simpa using hsz) ?_ ⟨by rw [put_defers', hst.defers], by rw [put_size, hst.size], fun i o t hi hd hl => ?_, fun t hno => ?_⟩ hS'
      · rw [Array.setIfInBounds, dif_pos hjl', Array.toList_set, List.countP_set (by simpa using hjl')]
        rw [hc]
        simp [hjf]
      · by_cases hij : i = j
        · subst hij
          rw [hlj] at hi
          injection hi with hi
          subst hi
          rw [still i oj t hlj hd (i + 1) (by omega) (by omega), hA, hd]
          exact put_at (by rw [actAt_size, hst.size])
        · have hne : oj.dst ≠ some t := fun hd' => hij (wr i j o oj t hi hlj hd hd')
          rw [put_other _ _ _ _ hne]
          exact hst.yes i o t hi hd (by rw [getD_set_ne true (Ne.symm hij)] at hl; exact hl)
      · have hne : oj.dst ≠ some t := fun hd' => by
          have := hno j oj hlj hd'
          simp [hjl'] at this
        rw [put_other _ _ _ _ hne]
        refine hst.no t fun i o hi hd => ?_
        have h1 := hno i o hi hd
        by_cases hij : i = j
        · subst hij; simp [hjl'] at h1
        · rw [getD_set_ne true (Ne.symm hij)] at h1; exact h1

/-- **A drawn region, in the order of its text**, if in whatever right world each operation leaves the same, and a right world. -/
theorem wp_region_chain {id : Nat} {l : List Oper} {a : Act} {w : World} (S : World → Prop) (hm : P.follows .mixedOrders = true) (ho : orderly l.toArray = true) (hS : S w.drew)
    (h : chain P l.toArray S (fun a' => ∀ w', S w' → Q .normal a' w') l a) : (Code.region id l.toArray true).wp P Q a w := by
  obtain ⟨F, hK, hF⟩ := chain_acts l a h
  refine wp_region_any hm ?_
  refine wpAny_chain ho hF hK _ _ a _ (by simp) (by simp [List.countP_replicate]) ⟨rfl, rfl, fun i o t hi _ hl => ?_, fun _ _ => rfl⟩ hS
  have : i < l.length := (List.getElem?_eq_some_iff.1 hi).1
  simp [this] at hl
end
end Go.Proofs.Ytljcgcllhcdleaa
/- A drawn region with one store: the operations for which the store waits see the world ahead of it; the few others do the same in both. -/
namespace Go.Proofs.Ytljcgcllhcdleaa
open Go.RowKit
section
variable {P : Program} {ops : Array Oper} {S0 S1 : World → Prop} {Q : Exit → Act → World → Prop}

theorem look_wpOp {S' : World → Prop} {j : Nat} {o : Oper} {A A1 a : Act} {K : Act → World → Prop} {v : Value} {w : World} (hj : ops[j]? = some o) (hs : ∀ cs b, o.op ≠ .select cs b)
    (h1 : wpList P ops (settled S' A1) [o] A w) (hA : A1 = A.put o.dst v) (hlook : ∀ t ∈ o.looksAt ops, A.tmps[t]? = a.tmps[t]?) (hsz : A.tmps.size = a.tmps.size)
    (hK : ∀ w', S' w' → K (a.put o.dst v) w') : wpOp P ops Q j K a w := by
  obtain ⟨he, hw⟩ := look_congr o hs A a hlook
  unfold wpOp
  simp only [hj]
  unfold wpList at h1
  rw [hw] at h1
  split
  · rename_i hwt
    rw [if_pos hwt] at h1
    refine .inl ?_
    rcases h1 with h1 | ⟨_, a', w', h1, _⟩
    case inr => cases h1
    unfold Oper.wp at *
    rw [he] at h1
    have fin : ∀ u w', wpList P ops (settled S' A1) [] (A.put o.dst u) w' → K (a.put o.dst u) w' := fun u w' h2 => by
      obtain ⟨_, h3, h4⟩ := h2
      rw [hA] at h3
      rw [put_same h3 hsz]
      exact hK w' h4
    generalize (execOp a.eval o).run P w = r at *
    cases r with
    | ok n w' =>
      cases n <;> simp only [Oper.upon] at h1 ⊢
      case value u => exact fin u w' h1
      case skip => exact fin undef w' h1
      case defer d =>
        obtain ⟨_, h3, _⟩ := h1
        rw [hA] at h3
        have := congrArg Act.defers h3
        rw [put_defers', put_defers'] at this
        exact absurd (congrArg List.length this) (by simp)
      case enter f args =>
        refine Calls.mono h1 fun e w'' he => ?_
        cases e with
        | returned u => exact fin u w'' he
        | panicked c => exact absurd he.1 (by simp)
        | outgrown => obtain ⟨a', w', h2, _⟩ := he; cases h2
      case row row args => exact Rows.mono h1 fun u w'' he => fin u w'' he
    | halt x w' =>
      cases x <;> simp only [Oper.upon] at h1 ⊢
      case panic u => exact absurd h1.1 (by simp)
  · rename_i hwt
    rw [if_neg hwt] at h1
    obtain ⟨_, h3, h4⟩ := h1
    rw [hA] at h3
    rw [put_same h3 hsz]
    exact hK w h4

/-- the store waits for all but these, and nobody waits for it -/
def storesLast (ops : Array Oper) (p : Nat) (fr : List Nat) : Bool :=
  (List.range ops.size).all fun k => k == p || ((Region.waitsFor .any ops p k || fr.contains k) && !Region.waitsFor .any ops k p)
theorem storesLast_spec {p : Nat} {fr : List Nat} (h : storesLast ops p fr = true) {k : Nat} (hk : k < ops.size) (hn : k ≠ p) : (Region.waitsFor .any ops p k = true ∨ k ∈ fr) := by
  unfold storesLast at h
  rw [List.all_eq_true] at h
  have := h k (List.mem_range.2 hk)
  simp only [Bool.or_eq_true, beq_iff_eq, Bool.and_eq_true, List.contains_eq_mem, decide_eq_true_eq] at this
  exact (this.resolve_left hn).1
/-- what an operation does, ahead of the store, and behind it -/
structure doesAt (P : Program) (ops : Array Oper) (S0 S1 : World → Prop) (p : Nat) (fr : List Nat) (k : Nat) (o : Oper) (a a1 : Act) : Prop where
  pre : k ≠ p → does1 P ops S0 o a a1
  post : k ≠ p → k ∈ fr → does1 P ops S1 o a a1
  store : k = p → ∀ w, S0 w → wpList P ops (settled S1 a1) [o] a w
/-- which of the two it is, by what is listed -/
structure Phase (ops : Array Oper) (S0 S1 : World → Prop) (p : Nat) (listed : Array Bool) (w : World) : Prop where
  pre : listed.getD p true = false → S0 w
  post : listed.getD p true = true → S1 w
  closed : listed.getD p true = true → ∀ k, Region.waitsFor .any ops p k = true → listed.getD k false = true
theorem Phase.last {p : Nat} {listed : Array Bool} {w : World} (h : Phase ops S0 S1 p listed w) (hl : listed.getD p true = true) : S1 w := h.post hl
theorem getD_true_false {listed : Array Bool} {k : Nat} (hk : k < listed.size) : listed.getD k true = listed.getD k false := by simp [hk]
theorem Phase.next {p : Nat} {fr : List Nat} {listed : Array Bool} {w : World} {j : Nat} {o : Oper} {a a1 : Act} (h : Phase ops S0 S1 p listed w) (hsz : listed.size = ops.size) (hfr : storesLast ops p fr = true) (hj : j ∈ Region.ready .any ops listed)
    (hd : doesAt P ops S0 S1 p fr j o a a1) : ∃ S' : World → Prop, wpList P ops (settled S' a1) [o] a w ∧ ∀ w', S' w' → Phase ops S0 S1 p (listed.setIfInBounds j true) w' := by
  obtain ⟨hjun, oj, hoj, hdeps⟩ := mem_ready.1 hj
  have hjs : j < listed.size := by rw [hsz]; exact (Array.getElem?_eq_some_iff.1 hoj).1
  have keep : ∀ k, listed.getD k false = true → (listed.setIfInBounds j true).getD k false = true := fun k hk => by
    by_cases hkj : k = j
    · subst hkj; simp [hjs]
    · rw [getD_set_ne false (fun e => hkj e.symm)]; exact hk
  by_cases hjp : j = p
  · subst hjp
    refine ⟨S1, hd.store rfl w (h.pre hjun), fun w' hw => ⟨fun e => ?_, fun _ => hw, fun _ k hk => ?_⟩⟩
    · simp [hjs] at e
    · obtain ⟨o', ho', e, he, hb, hek⟩ := Region.waitsFor_spec hk
      rw [hoj] at ho'
      injection ho' with ho'
      subst ho'
      have := hdeps e he hb
      rw [hek] at this
      exact keep k this
  · have hpe : (listed.setIfInBounds j true).getD p true = listed.getD p true := getD_set_ne true hjp
    cases hp : listed.getD p true with
    | false => exact ⟨S0, hd.pre hjp w (h.pre hp), fun w' hw => ⟨fun _ => hw, fun e => (by rw [hpe, hp] at e; cases e), fun e => (by rw [hpe, hp] at e; cases e)⟩⟩
    | true =>
      have hjo : j < ops.size := by omega
      rcases storesLast_spec hfr hjo hjp with hw | hm
      · have := h.closed hp j hw
        rw [getD_true_false hjs, this] at hjun
        cases hjun
      · exact ⟨S1, hd.post hjp hm w (h.post hp), fun w' hw => ⟨fun e => (by rw [hpe, hp] at e; cases e), fun _ => hw, fun _ k hk => keep k (h.closed hp k hk)⟩⟩
theorem wpAny_store {p : Nat} {fr : List Nat} {l : List Oper} {F : Nat → Value} {a0 : Act} (ho : orderly l.toArray = true)
    (hp : p < l.length) (hfr : storesLast l.toArray p fr = true) (hF : ∀ k o, l[k]? = some o → doesAt P l.toArray S0 S1 p fr k o (actAt l F a0 k) (actAt l F a0 (k + 1)))
    (hK : ∀ w, S1 w → Q .normal (actAt l F a0 l.length) w) :
    ∀ (fuel : Nat) (listed : Array Bool) (a : Act) (w : World), listed.size = l.length → (listed.toList.countP (· == false)) = fuel → Stands l F a0 listed a → Phase l.toArray S0 S1 p listed w → wpAny P .any l.toArray Q fuel listed a w := by
  have hsel := Region.noSelect_spec (ops := l.toArray) (by unfold orderly at ho; exact (Bool.and_eq_true _ _ ▸ ho).1)
  have wr : ∀ (i j : Nat) (o o' : Oper) (t : Tmp), l[i]? = some o → l[j]? = some o' → o.dst = some t → o'.dst = some t → i = j := fun i j o o' t hi hj h1 h2 => by
    rcases Nat.lt_trichotomy i j with h | h | h
    · exact absurd h2 (((orderly_spec ho (j := j) (oj := o') (by simpa using hj)).2 i o t (by simpa using hi) h1).1 (by omega))
    · exact h
    · exact absurd h2 (((orderly_spec ho (j := j) (oj := o') (by simpa using hj)).2 i o t (by simpa using hi) h1).1 (by omega))
  have done : ∀ (listed : Array Bool) (a : Act) (w : World), listed.size = l.length → (∀ i, i < l.length → listed.getD i true = true) → Stands l F a0 listed a → S1 w → Q .normal a w := fun listed a w hsz hall hst hS => by
    have : a = actAt l F a0 l.length := by
      have e1 : a.tmps = (actAt l F a0 l.length).tmps := by
        have pt : ∀ t : Nat, a.tmps[t]? = (actAt l F a0 l.length).tmps[t]? := fun t => by
          by_cases hx : ∃ (i : Nat) (o : Oper), l[i]? = some o ∧ o.dst = some t
          · obtain ⟨i, o, hi, hd⟩ := hx
            exact hst.yes i o t hi hd (hall i (List.getElem?_eq_some_iff.1 hi).1)
          · have h1 := hst.no t (fun i o hi hd => absurd ⟨i, o, hi, hd⟩ hx)
            have h2 := actAt_still l F a0 t 0 l.length (fun i o _ _ hi hd => hx ⟨i, o, hi, hd⟩)
            rw [Nat.zero_add] at h2
            rw [h1, h2]
            rfl
        apply Array.ext_getElem?
        intro t
        exact pt t
      have e2 : a.defers = (actAt l F a0 l.length).defers := by rw [hst.defers, actAt_defers]
      cases a
      simp only at e1 e2
      rw [e1, e2]
    rw [this]
    exact hK w hS
  intro fuel
  induction fuel with
  | zero =>
    intro listed a w hsz hc hst hS
    have hall : ∀ i, i < l.length → listed.getD i true = true := fun i hi => by
      rw [List.countP_eq_zero] at hc
      have hil : i < listed.size := by omega
      have := hc listed[i] (by simp)
      simp [hil] at this ⊢
      exact this
    refine ⟨?_, done listed a w hsz hall hst (hS.last (hall p hp))⟩
    cases hr : Region.ready .any l.toArray listed with
    | nil => rfl
    | cons x xs =>
      have hm : x ∈ Region.ready .any l.toArray listed := by rw [hr]; exact List.mem_cons_self
      obtain ⟨h1, o, h2, _⟩ := mem_ready.1 hm
      rw [hall x (by have := (Array.getElem?_eq_some_iff.1 h2).1; simpa using this)] at h1
      cases h1
  | succ fuel ih =>
    intro listed a w hsz hc hst hS
    refine ⟨fun hr => done listed a w hsz (fun i hi => ready_none ho hr (by simpa using hsz) i (by simpa using hi)) hst (hS.last (ready_none ho hr (by simpa using hsz) p (by simpa using hp))), fun j hj => ?_⟩
    obtain ⟨hjun, oj, hoj, hdeps⟩ := mem_ready.1 hj
    have hlj : l[j]? = some oj := by simpa using hoj
    have hjl : j < l.length := (List.getElem?_eq_some_iff.1 hlj).1
    have hA : actAt l F a0 (j + 1) = (actAt l F a0 j).put oj.dst (F j) := by
      show (match l[j]? with | none => _ | some o => _) = _
      rw [hlj]
    obtain ⟨hlt, hsp⟩ := orderly_spec ho hoj
    have still : ∀ (i : Nat) (o : Oper) (t : Tmp), l[i]? = some o → o.dst = some t → ∀ k, i < k → k ≤ l.length → (actAt l F a0 l.length).tmps[t]? = (actAt l F a0 k).tmps[t]? := fun i o t hi hd k hk hkl => by
      have := actAt_still l F a0 t k (l.length - k) (fun i' o' h1 _ h3 h4 => by have := wr i i' o o' t hi h3 hd h4; omega)
      rw [← this, show k + (l.length - k) = l.length from by omega]
    obtain ⟨S', hstep, hS2⟩ := hS.next (by simpa using hsz) hfr hj (hF j oj hlj)
    refine look_wpOp (S' := S') hoj (fun cs b => hsel j oj cs b hoj) hstep hA (fun t ht => ?_) (by rw [actAt_size, hst.size]) (fun w' hS' => ?_)
    · by_cases hx : ∃ (i : Nat) (o : Oper), l[i]? = some o ∧ o.dst = some t
      · obtain ⟨i, o, hi, hd⟩ := hx
        obtain ⟨e, he, heq, hb⟩ := (hsp i o t (by simpa using hi) hd).2 ht
        have hl := hdeps e he hb
        rw [heq] at hl
        have hij : i < j := by have := hlt e he hb; omega
        have hil : i < listed.size := by omega
        rw [hst.yes i o t hi hd (by simp [hil] at hl ⊢; exact hl)]
        exact (still i o t hi hd j hij (by omega)).symm
      · rw [hst.no t (fun i o hi hd => absurd ⟨i, o, hi, hd⟩ hx)]
        have h2 := actAt_still l F a0 t 0 j (fun i o _ _ hi hd => hx ⟨i, o, hi, hd⟩)
        rw [Nat.zero_add] at h2
        exact h2
    · have hjl' : j < listed.size := by omega
      have hjf : listed[j] = false := by simpa [hjl'] using hjun
      refine ih (listed.setIfInBounds j true) _ w' (by simpa using hsz) ?_ ⟨by rw [put_defers', hst.defers], by rw [put_size, hst.size], fun i o t hi hd hl => ?_, fun t hno => ?_⟩ (hS2 w' hS')
      · rw [Array.setIfInBounds, dif_pos hjl', Array.toList_set, List.countP_set (by simpa using hjl')]
        rw [hc]
        simp [hjf]
      · by_cases hij : i = j
        · subst hij
          rw [hlj] at hi
          injection hi with hi
          subst hi
          rw [still i oj t hlj hd (i + 1) (by omega) (by omega), hA, hd]
          exact put_at (by rw [actAt_size, hst.size])
        · have hne : oj.dst ≠ some t := fun hd' => hij (wr i j o oj t hi hlj hd hd')
          rw [put_other _ _ _ _ hne]
          exact hst.yes i o t hi hd (by rw [getD_set_ne true (Ne.symm hij)] at hl; exact hl)
      · have hne : oj.dst ≠ some t := fun hd' => by
          have := hno j oj hlj hd'
          simp [hjl'] at this
        rw [put_other _ _ _ _ hne]
        refine hst.no t fun i o hi hd => ?_
        have h1 := hno i o hi hd
        by_cases hij : i = j
        · subst hij; simp [hjl'] at h1
        · rw [getD_set_ne true (Ne.symm hij)] at h1; exact h1


/-- the acts of the text's order -/
inductive chainS (P : Program) (ops : Array Oper) (S0 S1 : World → Prop) (p : Nat) (fr : List Nat) (K : Act → Prop) : Nat → List Oper → Act → Prop
  | nil {k : Nat} {a : Act} : K a → chainS P ops S0 S1 p fr K k [] a
  | cons {k : Nat} {o : Oper} {rest : List Oper} {a : Act} (v : Value) : doesAt P ops S0 S1 p fr k o a (a.put o.dst v) → chainS P ops S0 S1 p fr K (k + 1) rest (a.put o.dst v) → chainS P ops S0 S1 p fr K k (o :: rest) a
variable {p : Nat} {fr : List Nat}
theorem chainS_mid {K : Act → Prop} {k : Nat} {o : Oper} {rest : List Oper} {a a1 : Act} (hk : decide (k = p) = false) (h : does1 P ops S0 o a a1) (h1 : fr.contains k = true → does1 P ops S1 o a a1) (hp : a1 = a.put o.dst (a1.eval (.tmp (o.dst.getD 0))))
    (hr : chainS P ops S0 S1 p fr K (k + 1) rest a1) : chainS P ops S0 S1 p fr K k (o :: rest) a := by
  have hk' := of_decide_eq_false hk
  refine .cons (a1.eval (.tmp (o.dst.getD 0))) ?_ ?_
  · rw [← hp]; exact ⟨fun _ => h, fun _ hm => h1 (by simpa using hm), fun e => absurd e hk'⟩
  · rw [← hp]; exact hr
theorem chainS_store {K : Act → Prop} {k : Nat} {o : Oper} {rest : List Oper} {a a1 : Act} (hk : decide (k = p) = true) (h : ∀ w, S0 w → wpList P ops (settled S1 a1) [o] a w) (hp : a1 = a.put o.dst (a1.eval (.tmp (o.dst.getD 0))))
    (hr : chainS P ops S0 S1 p fr K (k + 1) rest a1) : chainS P ops S0 S1 p fr K k (o :: rest) a := by
  have hk' := of_decide_eq_true hk
  refine .cons (a1.eval (.tmp (o.dst.getD 0))) ?_ ?_
  · rw [← hp]; exact ⟨fun e => absurd hk' e, fun e => absurd hk' e, fun _ => h⟩
  · rw [← hp]; exact hr
theorem chainS_acts {K : Act → Prop} : ∀ (l : List Oper) (n : Nat) (a : Act), chainS P ops S0 S1 p fr K n l a → ∃ F : Nat → Value, K (actAt l F a l.length) ∧ ∀ k o, l[k]? = some o → doesAt P ops S0 S1 p fr (n + k) o (actAt l F a k) (actAt l F a (k + 1))
  | [], n, a, .nil h => ⟨fun _ => undef, h, fun k o hk => by simp at hk⟩
  | o :: l, n, a, .cons v h1 h2 => by
    obtain ⟨F, hK, hF⟩ := chainS_acts l (n + 1) (a.put o.dst v) h2
    refine ⟨fun i => match i with | 0 => v | i + 1 => F i, ?_, fun k o' hk => ?_⟩
    · rw [List.length_cons, actAt_cons]
      exact hK
    · cases k with
      | zero =>
        simp at hk
        subst hk
        simpa [actAt] using h1
      | succ k =>
        have := hF k o' (by simpa using hk)
        rw [actAt_cons, actAt_cons, show n + (k + 1) = n + 1 + k by omega]
        exact this
/-- **A drawn region with one store**: S0 is what holds of the world ahead of the store, S1 behind it. -/
theorem wp_region_store {id : Nat} {l : List Oper} {a : Act} {w : World} (S0 S1 : World → Prop) (p : Nat) (fr : List Nat) (hm : P.follows .mixedOrders = true) (ho : orderly l.toArray = true) (hp : decide (p < l.length) = true) (hfr : storesLast l.toArray p fr = true) (hS : S0 w.drew)
    (h : chainS P l.toArray S0 S1 p fr (fun a' => ∀ w', S1 w' → Q .normal a' w') 0 l a) : (Code.region id l.toArray true).wp P Q a w := by
  have hp' := of_decide_eq_true hp
  obtain ⟨F, hK, hF⟩ := chainS_acts l 0 a h
  refine wp_region_any hm ?_
  refine wpAny_store ho hp' hfr (fun k o hk => by have := hF k o hk; rwa [Nat.zero_add] at this) hK _ _ a _ (by simp) (by simp [List.countP_replicate]) ⟨rfl, rfl, fun i o t hi _ hl => ?_, fun _ _ => rfl⟩ ⟨fun _ => hS, fun e => ?_, fun e => ?_⟩
  · have : i < l.length := (List.getElem?_eq_some_iff.1 hi).1
    simp [this] at hl
  · simp [hp'] at e
  · simp [hp'] at e
end
end Go.Proofs.Ytljcgcllhcdleaa
/- Callees that only read. -/
namespace Go.Proofs.Ytljcgcllhcdleaa
open Go.RowKit
/-- a quiet callee's contract, in a world that has been drawn from before -/
theorem quiet_at {P : Program} {f : FuncId} {args : Array Value} {w : World} {n a : Nat} {v : Value}
    (h : Calls P f args (w.drewN (a + n)) fun e w' => e = .returned v ∧ ∃ m, w' = (w.drewN (a + n)).drewN m) : Calls P f args (w.drewN (a + n)) fun e w'' => e = .returned v ∧ ∃ m, w'' = w.drewN (a + m) :=
  h.mono fun _ _ ⟨he, m, hm⟩ => ⟨he, n + m, by rw [hm, World.drewN_drewN, Nat.add_assoc]⟩
theorem quiet_below {P : Program} {f : FuncId} {args : Array Value} {w : World} {v : Value}
    (h : Calls P f args w fun e w' => e = .returned v ∧ ∃ n, w' = w.drewN n) : Calls P f args w fun e w' => e = .returned v ∧ Below w.heap.size w w' :=
  h.mono fun _ _ ⟨he, n, hw⟩ => ⟨he, hw ▸ below_drewN (Below.refl _ _) n⟩
theorem SL.dr {w : World} {B size n : Nat} {v : Value} {xs : List Value} (k : Nat) (h : SL w B size v n xs) : SL (w.drewN k) B size v n xs := h
end Go.Proofs.Ytljcgcllhcdleaa
/- Chapter 7, the reference: the machine in memory. -/
namespace Go.Proofs.Ytljcgcllhcdleaa
open Go.RowKit
set_option linter.unusedSimpArgs false
set_option linter.unusedVariables false
theorem Arrs.aside {w : World} {lo : Nat} {v : Value} {l : List (List Int)} {vs : List Value} (h : Arrs w lo v l vs) {q o : Nat} {c : Value} (hq : q < lo) : Arrs (w.setCell ⟨q, o, none⟩ c) lo v l vs :=
  ⟨ownsRow_setCell_below h.outer hq _, h.len, fun k u a hu ha => ownsRow_setCell_below (h.row k u a hu ha) hq _, h.apart, h.out⟩
/-- only what lies below hi is changed, cell by cell, and no block below lo -/
inductive Sets (lo hi : Nat) (w : World) : World → Prop
  | here : Sets lo hi w w
  | more {W W' : World} : Sets lo hi w W → Below W.heap.size W W' → Sets lo hi w W'
  | set {W : World} {b j : Nat} {c : Value} : Sets lo hi w W → lo ≤ b → b < hi → Sets lo hi w (W.setCell ⟨b, j, none⟩ c)
theorem Sets.size {lo hi : Nat} {w W : World} (h : Sets lo hi w W) : w.heap.size ≤ W.heap.size := by
  induction h with
  | here => exact Nat.le_refl _
  | more _ h ih => exact Nat.le_trans ih h.size
  | set _ _ _ ih => simpa using ih
theorem Sets.keeps {lo hi : Nat} {w W : World} (h : Sets lo hi w W) (hl : lo ≤ w.heap.size) : Below lo w W := by
  induction h with
  | here => exact Below.refl _ _
  | more h1 h2 ih => exact ih.trans (h2.mono (Nat.le_trans hl h1.size))
  | set _ h2 _ ih => exact ih.setCell h2 _
theorem Sets.drewN {lo hi : Nat} {w W : World} (h : Sets lo hi w W) (n : Nat) : Sets lo hi w (W.drewN n) := h.more (below_drewN (Below.refl _ _) n)
theorem Leaks.sets {lo hi hi' : Nat} {w W : World} {v : Value} {l : List Ev.Leak} {us : List Value} (hs : Sets lo hi w W) (h : Leaks w hi' v l us) (hh : hi ≤ hi') : Leaks W hi' v l us := by
  induction hs with
  | here => exact h
  | more _ hb ih => exact ih.stays hb
  | set _ _ h3 ih => exact ih.aside _ _ _ (by omega)
/-- the machine: its struct in block mb, its places in block bv, its arrays behind these, all below hi -/
structure MAt (w : World) (bv mb : Nat) (va : Value) (vs : List Value) (hi : Nat) (s : Ev.St) : Prop where
  v : w.ownsRow bv 3 1 (.slice (some ⟨bv, 0, none⟩) s.v.length s.v.length) s.v.length (s.v.map (Value.int .i64))
  arrs : Arrs w (mb + 1) va s.arrs vs
  m0 : w.cell? ⟨mb, 0, none⟩ = some (.slice (some ⟨bv, 0, none⟩) s.v.length s.v.length)
  m1 : w.cell? ⟨mb, 1, none⟩ = some va
  m2 : w.cell? ⟨mb, 2, none⟩ = some (.int .i64 s.mode)
  loose : ∀ j, w.frozen? ⟨mb, j, none⟩ = false
  bm : bv < mb
  mh : mb < hi
  hio : ∀ b, va.ownBlock = some b → b < hi
  his : ∀ (k : Nat) u b, vs[k]? = some u → u.ownBlock = some b → b < hi
  le : hi ≤ w.heap.size
section
variable {w w' : World} {bv mb hi : Nat} {va : Value} {vs : List Value} {s : Ev.St}
theorem MAt.stays (h : MAt w bv mb va vs hi s) (hb : Below w.heap.size w w') : MAt w' bv mb va vs hi s := by
  have hm := h.mh
  have hl := h.le
  have c := fun o => hb.cell (p := ⟨mb, o, none⟩) (by show mb < _; omega)
  exact ⟨owns_below h.v hb, ⟨owns_below h.arrs.outer hb, h.arrs.len, fun k u a hu ha => owns_below (h.arrs.row k u a hu ha) hb, h.arrs.apart, h.arrs.out⟩, (c 0).trans h.m0, (c 1).trans h.m1, (c 2).trans h.m2,
    fun j => (hb.frozen (p := ⟨mb, j, none⟩) (by show mb < _; omega)).trans (h.loose j), h.bm, h.mh, h.hio, h.his, Nat.le_trans h.le hb.size⟩
theorem MAt.cell (h : MAt w bv mb va vs hi s) {p : Int} (hp : inR s.v.length p) : w.cell? ⟨bv, p.toNat, none⟩ = some (.int .i64 (Ev.val s.v p)) := by
  unfold inR at hp
  rw [h.v.cellAt p.toNat (by omega)]
  rw [List.getElem?_map]
  unfold Ev.val
  rw [List.getD_eq_getElem?_getD, List.getElem?_eq_getElem (by omega)]
  rfl
theorem MAt.vloose (h : MAt w bv mb va vs hi s) (j : Nat) : w.frozen? ⟨bv, j, none⟩ = false := h.v.frozenAt j
theorem MAt.setV (h : MAt w bv mb va vs hi s) (j : Nat) (x : Int) : MAt (w.setCell ⟨bv, j, none⟩ (.int .i64 x)) bv mb va vs hi { s with v := s.v.set j x } := by
  obtain ⟨h1, h2⟩ := h.v.stored j (.int .i64 x)
  have hbm := h.bm
  have ne : ∀ o, (⟨bv, j, none⟩ : Addr) ≠ ⟨mb, o, none⟩ := fun o e => by injection e with e; omega
  refine ⟨?_, h.arrs.aside (by omega), ?_, ?_, ?_, ?_, h.bm, h.mh, h.hio, h.his, by simpa using h.le⟩
  · simp only [List.length_set, map_set_int]
    exact h1
  · simp only [List.length_set]
    have := h.m0
    go_simp
  · have := h.m1
    go_simp
  · have := h.m2
    go_simp
  · intro o
    have := h.loose o
    go_simp
theorem MAt.setMode (h : MAt w bv mb va vs hi s) (x : Int) : MAt (w.setCell ⟨mb, 2, none⟩ (.int .i64 x)) bv mb va vs hi { s with mode := x } := by
  have hbm := h.bm
  refine ⟨ownsRow_setCell_other h.v (by simp [Value.ownBlock]; omega) _, h.arrs.aside (by omega), ?_, ?_, ?_, ?_, h.bm, h.mh, h.hio, h.his, by simpa using h.le⟩
  · have := h.m0
    go_simp
  · have := h.m1
    go_simp
  · have := h.m2
    go_simp
  · intro o
    have := h.loose o
    go_simp
theorem MAt.setA (h : MAt w bv mb va vs hi s) {k g : Nat} {a : List Int} {ca : Nat} (hk : s.arrs[k]? = some a) (hu : vs[k]? = some (.slice (some ⟨g, 0, none⟩) a.length ca)) (j : Nat) (x : Int) :
    MAt (w.setCell ⟨g, j, none⟩ (.int .i64 x)) bv mb va vs hi { s with arrs := s.arrs.set k (a.set j x) } := by
  have hr := h.arrs.row k _ a hu hk
  obtain ⟨h1, h2⟩ := hr.stored j (.int .i64 x)
  have hgb := (hr.lt g rfl).1
  have hbm := h.bm
  refine ⟨ownsRow_setCell_other h.v (by simp [Value.ownBlock]; omega) _, ⟨ownsRow_setCell_other h.arrs.outer (h.arrs.out k _ g hu rfl) _, by simpa using h.arrs.len, fun k' u b hu' hb => ?_, h.arrs.apart, h.arrs.out⟩, ?_, ?_, ?_, ?_, h.bm, h.mh, h.hio, h.his, by simpa using h.le⟩
  · by_cases hkk : k' = k
    · subst hkk
      rw [hu] at hu'
      injection hu' with hu'
      subst hu'
      have hb' : b = a.set j x := by
        simp only [List.getElem?_set] at hb
        split at hb
        · split at hb
          · exact (Option.some.inj hb).symm
          · cases hb
        · rename_i hne; exact absurd trivial hne
      subst hb'
      rw [List.length_set, map_set_int]
      exact h1
    · have hb' : s.arrs[k']? = some b := by
        simp only [List.getElem?_set] at hb
        rw [if_neg (fun e => hkk e.symm)] at hb
        exact hb
      refine ownsRow_setCell_other (h.arrs.row k' u b hu' hb') ?_ _
      intro e
      exact hkk (h.arrs.apart k' k u _ g hu' hu e rfl)
  · have := h.m0
    go_simp
  · have := h.m1
    go_simp
  · have := h.m2
    go_simp
  · intro o
    have := h.loose o
    go_simp
end
set_option maxHeartbeats 400000 in
theorem low_same (a : Int) (w : World) :
    Calls Try.prog 56 #[.int .i64 a] w fun e w' => e = .returned (.int .i64 ((Ev.low a : Nat) : Int)) ∧ w' = w := by
  have ha := u32_low a
  have la := Ev.low_lt a
  generalize Ev.low a = x at *
  go_enter Try.func56, Try.ntmps56
  go_wp2
  go_ret
  exact ⟨rfl, rfl⟩
set_option maxHeartbeats 400000 in
theorem refSel_same (a b c : Int) (w : World) :
    Calls Try.prog 88 #[.int .i64 a, .int .i64 b, .int .i64 c] w fun e w' => e = .returned (.int .i64 (Ev.sel a b c)) ∧ w' = w := by
  have la := Lib.hid (fun a w => low_same a w)
  have s1 := Lib.hid (@sel_yes a b c)
  have s2 := Lib.hid (@sel_no a b c)
  go_enter Try.func88, Try.ntmps88
  go_wp2_with (refine (la.out _ _).mono ?_; rintro _ _ ⟨rfl, rfl⟩)
  all_goals
    go_ret
    (try simp only [bne_iff_ne, ne_eq, bne_eq_false_iff_eq, beq_iff_eq, beq_eq_false_iff_ne] at *)
    refine ⟨?_, by first | rfl | trivial⟩
    first
    | (have h0 : ¬ (((Ev.low a : Nat) : Int) = 0) := by omega
       rw [s1.out h0]; rfl)
    | (have h0 : (((Ev.low a : Nat) : Int) = 0) := by omega
       rw [s2.out h0]; rfl)
end Go.Proofs.Ytljcgcllhcdleaa
