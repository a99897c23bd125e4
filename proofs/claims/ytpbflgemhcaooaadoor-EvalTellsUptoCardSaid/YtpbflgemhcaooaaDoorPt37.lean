import Derived.Test.YtpbflgemhcaooaaDoorPt36
import Derived.Test.YtpbflgemhcaooaaDoorPt17
import Derived.Test.YtpbflgemhcaooaaDoorPt11
import Derived.Test.YtpbflgemhcaooaaDoorPt12
/- The document's reader, whole. -/
namespace Go.Proofs.YtpbflgemhcaooaaDoor
open Go.RowKit
theorem stmtsDo : StmtsDo 9 := fun p b w h hl hv => stmts_any 9 (Nat.le_refl 9) (stmt_all 9 (Nat.le_refl 9)) p b w h hl hv
/-- the document's Parse -/
theorem refParseFn (s : List UInt8) (w : World) (hv : Vars w) (hs : s.length ≤ 9223372036854775807) :
    Calls Tryd.prog 14 #[.string ⟨(s).toArray⟩] w fun e w' => ∃ v1 v2 v3, e = .returned (.tuple #[.agg #[v1, v2, v3], .int .i64 (Ev.parseW s).2]) ∧ RFn w' (fun k => w.heap.size ≤ k ∧ k < w'.heap.size) v1 v2 v3 (Ev.parseW s).1 ∧ Below w.heap.size w w' := refParse_any1 stmtsDo s w hv hs
end Go.Proofs.YtpbflgemhcaooaaDoor
/- As XFlock, where each heavy operation's result has an interval of birth (what it made lies in it): the intervals of two operations are apart. -/
namespace Go.Proofs.YtpbflgemhcaooaaDoor
open Go.RowKit
set_option linter.unusedSimpArgs false
set_option linter.unusedVariables false
section
variable {P : Program} {ops : Array Oper} {Q : Exit → Act → World → Prop}
structure Bv where
  B : Nat × Nat → Value → World → Prop
  ok : Value → Prop
  imp : ∀ x v w, B x v w → ok v
  dum : ∃ v, ok v
  stay : ∀ x v w w', Below w.heap.size w w' → B x v w → B x v w'
def apartD (x y : Nat × Nat) : Prop := x.2 ≤ y.1 ∨ y.2 ≤ x.1
theorem apartD.symm {x y : Nat × Nat} (h : apartD x y) : apartD y x := Or.symm h
/-- an operation's result, with its interval -/
abbrev bornTo (a : Act) (d : Option Tmp) (w : World) (R : Bv) : Exit → Act → World → Prop := grewTo a d w (fun v w' => R.B (w.heap.size, w'.heap.size) v w')
theorem bornTo_at {a a' : Act} {d : Option Tmp} {w w' : World} {R : Bv} (hp : a' = a.put d (a'.eval (.tmp (d.getD 0)))) (hb : Below w.heap.size w w') (hR : R.B (w.heap.size, w'.heap.size) (a'.eval (.tmp (d.getD 0))) w') : bornTo a d w R .normal a' w' := ⟨rfl, _, hp, hb, hR⟩
theorem bornTo_intro {a : Act} {d : Option Tmp} {w w' : World} {v : Value} {R : Bv} (hb : Below w.heap.size w w') (hR : R.B (w.heap.size, w'.heap.size) v w') : bornTo a d w R .normal (a.put d v) w' := ⟨rfl, v, rfl, hb, hR⟩
def flockD (P : Program) (ops : Array Oper) (W : World) (pr : Nat → Option Bv) (K : Act → World → Prop) : Nat → List (Nat × (World → Prop)) → List (Nat × Nat) → List Oper → Act → Prop
  | _, hs, ds, [], a => ∀ w, Below W.heap.size W w → (∀ p ∈ hs, p.2 w) → ds.Pairwise apartD → K a w
  | k, hs, ds, o :: rest, a => match pr k with
    | none => ∃ c, YieldsIf P ops (fun w => Below W.heap.size W w ∧ ∀ p ∈ hs, waits ops k p.1 = true → p.2 w) o c a ∧ flockD P ops W pr K (k + 1) hs ds rest (a.put o.dst c)
    | some R => (∀ w, Below W.heap.size W w → (∀ p ∈ hs, waits ops k p.1 = true → p.2 w) → wpList P ops (bornTo a o.dst w R) [o] a w) ∧ ∀ v x, R.ok v → flockD P ops W pr K (k + 1) ((k, R.B x v) :: hs) (x :: ds) rest (a.put o.dst v)

variable {W : World} {pr : Nat → Option Bv} {K : Act → World → Prop}
theorem flockD_light {k : Nat} {hs : List (Nat × (World → Prop))} {ds : List (Nat × Nat)} {o : Oper} {rest : List Oper} {a : Act} {c : Value} (hp : pr k = none)
    (h : light1 P ops (fun w => Below W.heap.size W w ∧ ∀ p ∈ hs, waits ops k p.1 = true → p.2 w) o a c) (hr : flockD P ops W pr K (k + 1) hs ds rest (a.put o.dst c)) : flockD P ops W pr K k hs ds (o :: rest) a := by
  unfold flockD; rw [hp]; exact ⟨c, h, hr⟩
theorem flockD_heavy {k : Nat} {hs : List (Nat × (World → Prop))} {ds : List (Nat × Nat)} {o : Oper} {rest : List Oper} {a : Act} (R : Bv) (hp : pr k = some R)
    (h : ∀ w, Below W.heap.size W w → (∀ p ∈ hs, waits ops k p.1 = true → p.2 w) → wpList P ops (bornTo a o.dst w R) [o] a w) (hr : ∀ v x, R.ok v → flockD P ops W pr K (k + 1) ((k, R.B x v) :: hs) (x :: ds) rest (a.put o.dst v)) : flockD P ops W pr K k hs ds (o :: rest) a := by
  unfold flockD; rw [hp]; exact ⟨h, hr⟩
theorem flockD_nil {k : Nat} {hs : List (Nat × (World → Prop))} {ds : List (Nat × Nat)} {a : Act} (h : ∀ w, Below W.heap.size W w → (∀ p ∈ hs, p.2 w) → ds.Pairwise apartD → K a w) : flockD P ops W pr K k hs ds [] a := h
theorem flockD_mono {K' : Act → World → Prop} (hK : ∀ a w, K a w → K' a w) : ∀ (l : List Oper) (k : Nat) (hs : List (Nat × (World → Prop))) (ds : List (Nat × Nat)) (a : Act), flockD P ops W pr K k hs ds l a → flockD P ops W pr K' k hs ds l a
  | [], k, hs, ds, a, h => fun w hw hp hd => hK _ _ (h w hw hp hd)
  | o :: l, k, hs, ds, a, h => by
    unfold flockD at h ⊢
    cases hp : pr k with
    | none =>
      rw [hp] at h
      obtain ⟨c, h1, h2⟩ := h
      exact ⟨c, h1, flockD_mono hK l _ _ _ _ h2⟩
    | some R =>
      rw [hp] at h
      exact ⟨h.1, fun v x hv => flockD_mono hK l _ _ _ _ (h.2 v x hv)⟩
structure GoodD (P : Program) (ops : Array Oper) (W : World) (pr : Nat → Option Bv) (K : Act → World → Prop) (X : Nat → Nat × Nat) (k : Nat) (hs : List (Nat × (World → Prop))) (ds : List (Nat × Nat)) (l : List Oper) (a : Act) (G : Nat → Value) : Prop where
  light : ∀ j o, l[j]? = some o → pr (k + j) = none → YieldsIf P ops (fun w => Below W.heap.size W w ∧ (∀ p ∈ hs, waits ops (k + j) p.1 = true → p.2 w) ∧ ∀ i R, waits ops (k + j) (k + i) = true → pr (k + i) = some R → R.B (X (k + i)) (G i) w) o (G j) (actAt l G a j)
  heavy : ∀ j o R, l[j]? = some o → pr (k + j) = some R → ∀ w, Below W.heap.size W w → (∀ p ∈ hs, waits ops (k + j) p.1 = true → p.2 w) → (∀ i R', waits ops (k + j) (k + i) = true → pr (k + i) = some R' → R'.B (X (k + i)) (G i) w) → wpList P ops (bornTo (actAt l G a j) o.dst w R) [o] (actAt l G a j) w
  fin : ∀ w, Below W.heap.size W w → (∀ p ∈ hs, p.2 w) → (∀ i R, i < l.length → pr (k + i) = some R → R.B (X (k + i)) (G i) w) → ds.Pairwise apartD → (∀ i, i < l.length → (pr (k + i)).isSome = true → ∀ d ∈ ds, apartD (X (k + i)) d) → (∀ i j, i ≠ j → i < l.length → j < l.length → (pr (k + i)).isSome = true → (pr (k + j)).isSome = true → apartD (X (k + i)) (X (k + j))) → K (actAt l G a l.length) w

theorem flockD_acts (X : Nat → Nat × Nat) : ∀ (l : List Oper) (k : Nat) (hs : List (Nat × (World → Prop))) (ds : List (Nat × Nat)) (a : Act), flockD P ops W pr K k hs ds l a → ∀ V : Nat → Value, (∀ j R, pr j = some R → R.ok (V j)) → ∃ G : Nat → Value, (∀ j, (pr (k + j)).isSome = true → G j = V (k + j)) ∧ GoodD P ops W pr K X k hs ds l a G
  | [], k, hs, ds, a, h, V, hV => ⟨fun j => V (k + j), fun _ _ => rfl, ⟨fun j o hj => by simp at hj, fun j o R hj => by simp at hj, fun w hw hp _ hd _ _ => h w hw hp hd⟩⟩
  | o :: l, k, hs, ds, a, h, V, hok => by
    unfold flockD at h
    cases hp : pr k with
    | none =>
      rw [hp] at h
      obtain ⟨c, h1, h2⟩ := h
      obtain ⟨G, hV, hG⟩ := flockD_acts X l (k + 1) hs ds (a.put o.dst c) h2 V hok
      refine ⟨fun i => match i with | 0 => c | i + 1 => G i, fun j hj => ?_, ⟨fun j o' hj hpj => ?_, fun j o' R hj hpj w hw h3 h4 => ?_, fun w hw h3 h4 h5 h6 h7 => ?_⟩⟩
      · cases j with
        | zero => rw [Nat.add_zero, hp] at hj; cases hj
        | succ j =>
          have := hV j (by rw [show k + 1 + j = k + (j + 1) by omega]; exact hj)
          rw [show k + 1 + j = k + (j + 1) by omega] at this
          exact this
      · cases j with
        | zero =>
          simp at hj
          subst hj
          simp only [actAt, Nat.add_zero]
          exact YieldsIf.imp h1 fun w hw => ⟨hw.1, fun p hp' hwt => hw.2.1 p hp' hwt⟩
        | succ j =>
          have := hG.light j o' (by simpa using hj) (by rw [show k + 1 + j = k + (j + 1) by omega]; exact hpj)
          rw [actAt_cons]
          refine YieldsIf.imp this fun w hw => ⟨hw.1, fun p hp' hwt => hw.2.1 p hp' (by rw [show k + (j + 1) = k + 1 + j by omega]; exact hwt), fun i R hi hR => by have := hw.2.2 (i + 1) R (by rw [show k + (j + 1) = k + 1 + j by omega, show k + (i + 1) = k + 1 + i by omega]; exact hi) (by rw [show k + (i + 1) = k + 1 + i by omega]; exact hR); rwa [show k + (i + 1) = k + 1 + i by omega] at this⟩
      · cases j with
        | zero => rw [Nat.add_zero, hp] at hpj; cases hpj
        | succ j =>
          have := hG.heavy j o' R (by simpa using hj) (by rw [show k + 1 + j = k + (j + 1) by omega]; exact hpj) w hw (fun p hp' hwt => h3 p hp' (by rw [show k + (j + 1) = k + 1 + j by omega]; exact hwt))
            (fun i R' hi hR => by have := h4 (i + 1) R' (by rw [show k + (j + 1) = k + 1 + j by omega, show k + (i + 1) = k + 1 + i by omega]; exact hi) (by rw [show k + (i + 1) = k + 1 + i by omega]; exact hR); rwa [show k + (i + 1) = k + 1 + i by omega] at this)
          rw [actAt_cons]
          exact this
      · rw [List.length_cons, actAt_cons]
        have sh : ∀ i, k + (i + 1) = k + 1 + i := fun i => by omega
        refine hG.fin w hw h3 (fun i R hi hR => ?_) h5 (fun i hi hs' d hd => ?_) (fun i j hij hi hj h8 h9 => ?_)
        · have := h4 (i + 1) R (by simpa using hi) (by rw [sh]; exact hR)
          rwa [sh] at this
        · have := h6 (i + 1) (by simpa using hi) (by rw [sh]; exact hs') d hd
          rwa [sh] at this
        · have := h7 (i + 1) (j + 1) (by omega) (by simpa using hi) (by simpa using hj) (by rw [sh]; exact h8) (by rw [sh]; exact h9)
          rw [sh i, sh j] at this; exact this
    | some R0 =>
      rw [hp] at h
      obtain ⟨h1, h2⟩ := h
      obtain ⟨G, hV, hG⟩ := flockD_acts X l (k + 1) ((k, R0.B (X k) (V k)) :: hs) (X k :: ds) (a.put o.dst (V k)) (h2 (V k) (X k) (hok k R0 hp)) V hok
      refine ⟨fun i => match i with | 0 => V k | i + 1 => G i, fun j hj => ?_, ⟨fun j o' hj hpj => ?_, fun j o' R hj hpj w hw h3 h4 => ?_, fun w hw h3 h4 h5 h6 h7 => ?_⟩⟩
      · cases j with
        | zero => rfl
        | succ j =>
          have := hV j (by rw [show k + 1 + j = k + (j + 1) by omega]; exact hj)
          rw [show k + 1 + j = k + (j + 1) by omega] at this
          exact this
      · cases j with
        | zero => rw [Nat.add_zero, hp] at hpj; cases hpj
        | succ j =>
          have := hG.light j o' (by simpa using hj) (by rw [show k + 1 + j = k + (j + 1) by omega]; exact hpj)
          rw [actAt_cons]
          refine YieldsIf.imp this fun w hw => ⟨hw.1, fun p hp' hwt => ?_, fun i R hi hR => by have := hw.2.2 (i + 1) R (by rw [show k + (j + 1) = k + 1 + j by omega, show k + (i + 1) = k + 1 + i by omega]; exact hi) (by rw [show k + (i + 1) = k + 1 + i by omega]; exact hR); rwa [show k + (i + 1) = k + 1 + i by omega] at this⟩
          rcases List.mem_cons.1 hp' with rfl | hp'
          · exact hw.2.2 0 R0 (by rw [show k + (j + 1) = k + 1 + j by omega]; exact hwt) hp
          · exact hw.2.1 p hp' (by rw [show k + (j + 1) = k + 1 + j by omega]; exact hwt)
      · cases j with
        | zero =>
          simp at hj
          subst hj
          rw [Nat.add_zero, hp] at hpj
          injection hpj with hpj
          subst hpj
          simp only [actAt]
          exact h1 w hw h3
        | succ j =>
          have := hG.heavy j o' R (by simpa using hj) (by rw [show k + 1 + j = k + (j + 1) by omega]; exact hpj) w hw (fun p hp' hwt => by
              rcases List.mem_cons.1 hp' with rfl | hp'
              · exact h4 0 R0 (by rw [show k + (j + 1) = k + 1 + j by omega]; exact hwt) hp
              · exact h3 p hp' (by rw [show k + (j + 1) = k + 1 + j by omega]; exact hwt))
            (fun i R' hi hR => by have := h4 (i + 1) R' (by rw [show k + (j + 1) = k + 1 + j by omega, show k + (i + 1) = k + 1 + i by omega]; exact hi) (by rw [show k + (i + 1) = k + 1 + i by omega]; exact hR); rwa [show k + (i + 1) = k + 1 + i by omega] at this)
          rw [actAt_cons]
          exact this
      · rw [List.length_cons, actAt_cons]
        have sh : ∀ i, k + (i + 1) = k + 1 + i := fun i => by omega
        refine hG.fin w hw (fun p hp' => ?_) (fun i R hi hR => ?_) (List.pairwise_cons.2 ⟨fun d hd => ?_, h5⟩) (fun i hi hs' d hd => ?_) (fun i j hij hi hj h8 h9 => ?_)
        · rcases List.mem_cons.1 hp' with rfl | hp'
          · exact h4 0 R0 (by simp) hp
          · exact h3 p hp'
        · have := h4 (i + 1) R (by simpa using hi) (by rw [sh]; exact hR)
          rwa [sh] at this
        · exact h6 0 (by simp) (by rw [Nat.add_zero, hp]; rfl) d hd
        · rcases List.mem_cons.1 hd with rfl | hd
          · have := h7 (i + 1) 0 (by omega) (by simpa using hi) (by simp) (by rw [sh]; exact hs') (by rw [Nat.add_zero, hp]; rfl)
            rwa [sh] at this
          · have := h6 (i + 1) (by simpa using hi) (by rw [sh]; exact hs') d hd
            rwa [sh] at this
        · have := h7 (i + 1) (j + 1) (by omega) (by simpa using hi) (by simpa using hj) (by rw [sh]; exact h8) (by rw [sh]; exact h9)
          rw [sh i, sh j] at this; exact this
/-- where the walk stands -/
structure FlockInvD (P : Program) (W : World) (pr : Nat → Option Bv) (K : Act → World → Prop) (l : List Oper) (a0 : Act) (V : Nat → Value) (X : Nat → Nat × Nat) (listed : Array Bool) (a : Act) (w : World) : Prop where
  size : listed.size = l.length
  cl : closedL l.toArray listed
  below : Below W.heap.size W w
  preds : ∀ j R, listed.getD j false = true → pr j = some R → R.B (X j) (V j) w
  top : ∀ j, listed.getD j false = true → (pr j).isSome = true → (X j).2 ≤ w.heap.size
  dis : ∀ i j, i ≠ j → listed.getD i false = true → listed.getD j false = true → (pr i).isSome = true → (pr j).isSome = true → apartD (X i) (X j)
  oks : ∀ j R, pr j = some R → R.ok (V j)
  st : ∀ X' G, GoodD P l.toArray W pr K X' 0 [] [] l a0 G → (∀ j, listed.getD j false = true → (pr j).isSome = true → G j = V j) → (∀ j, listed.getD j false = true → (pr j).isSome = true → X' j = X j) → Stands l G a0 listed a

theorem wpAny_flockD {l : List Oper} {a0 : Act} (ho : orderly l.toArray = true) (hf : flockD P l.toArray W pr (Q .normal) 0 [] [] l a0) :
    ∀ (fuel : Nat) (listed : Array Bool) (a : Act) (w : World) (V : Nat → Value) (X : Nat → Nat × Nat), listed.toList.countP (· == false) = fuel → FlockInvD P W pr (Q .normal) l a0 V X listed a w → wpAny P .any l.toArray Q fuel listed a w := by
  have hsel := Region.noSelect_spec (ops := l.toArray) (by unfold orderly at ho; exact (Bool.and_eq_true _ _ ▸ ho).1)
  have good : ∀ (V : Nat → Value) (X : Nat → Nat × Nat), (∀ j R, pr j = some R → R.ok (V j)) → ∃ G : Nat → Value, (∀ j, (pr j).isSome = true → G j = V j) ∧ GoodD P l.toArray W pr (Q .normal) X 0 [] [] l a0 G := fun V X hok => by
    obtain ⟨G, h1, h2⟩ := flockD_acts X l 0 [] [] a0 hf V hok
    exact ⟨G, fun j hj => by have := h1 j (by rw [Nat.zero_add]; exact hj); rwa [Nat.zero_add] at this, h2⟩
  have done : ∀ (listed : Array Bool) (a : Act) (w : World) (V : Nat → Value) (X : Nat → Nat × Nat), FlockInvD P W pr (Q .normal) l a0 V X listed a w → (∀ i, i < l.length → listed.getD i true = true) → Q .normal a w := fun listed a w V X hI hall => by
    obtain ⟨G, h1, h2⟩ := good V X hI.oks
    have hS := hI.st X G h2 (fun j _ hj => h1 j hj) (fun _ _ _ => rfl)
    have hall' : ∀ i, i < l.length → listed.getD i false = true := fun i hi => by
      have := hall i hi
      have hil : i < listed.size := by rw [hI.size]; exact hi
      simp [hil] at this ⊢
      exact this
    rw [hS.all hall]
    refine h2.fin w hI.below (fun p hp => by cases hp) (fun i R hi hR => ?_) List.Pairwise.nil (fun i hi hs d hd => by cases hd) (fun i j hij hi hj h8 h9 => by rw [Nat.zero_add] at h8 h9 ⊢; rw [Nat.zero_add]; exact hI.dis i j hij (hall' i hi) (hall' j hj) h8 h9)
    rw [Nat.zero_add] at hR ⊢
    rw [h1 i (by rw [hR]; rfl)]
    exact hI.preds i R (hall' i hi) hR
  intro fuel
  induction fuel with
  | zero =>
    intro listed a w V X hc hI
    have hall : ∀ i, i < l.length → listed.getD i true = true := fun i hi => by
      rw [List.countP_eq_zero] at hc
      have hil : i < listed.size := by rw [hI.size]; exact hi
      have := hc listed[i] (by simp)
      simp [hil] at this ⊢
      exact this
    refine ⟨?_, done listed a w V X hI hall⟩
    cases hr : Region.ready .any l.toArray listed with
    | nil => rfl
    | cons x xs =>
      have hm : x ∈ Region.ready .any l.toArray listed := by rw [hr]; exact List.mem_cons_self
      obtain ⟨h1, o, h2, _⟩ := mem_ready.1 hm
      rw [hall x (by have := (Array.getElem?_eq_some_iff.1 h2).1; simpa using this)] at h1
      cases h1
  | succ fuel ih =>
    intro listed a w V X hc hI
    refine ⟨fun hr => done listed a w V X hI (fun i hi => ready_none ho hr (by simpa using hI.size) i (by simpa using hi)), fun j hj => ?_⟩
    obtain ⟨hjun, oj, hoj, hdeps⟩ := mem_ready.1 hj
    have hlj : l[j]? = some oj := by simpa using hoj
    have hjl : j < l.length := (List.getElem?_eq_some_iff.1 hlj).1
    have hjl' : j < listed.size := by rw [hI.size]; exact hjl
    have hjf : listed[j] = false := by simpa [hjl'] using hjun
    have hjd : listed.getD j false = false := by simp [hjl', hjf]
    have hwl : ∀ i, waits l.toArray j i = true → listed.getD i false = true := fun i hi => waits_listed hI.cl hoj hdeps hi
    have hcnt : (listed.setIfInBounds j true).toList.countP (· == false) = fuel := by
      rw [Array.setIfInBounds, dif_pos hjl', Array.toList_set, List.countP_set (by simpa using hjl')]
      rw [hc]
      simp [hjf]
    have old : ∀ i, i ≠ j → (listed.setIfInBounds j true).getD i false = listed.getD i false := fun i hi => getD_set_ne false (Ne.symm hi)
    have hsl : ∀ cs b, oj.op ≠ .select cs b := fun cs b => hsel j oj cs b hoj
    obtain ⟨G, g1, g2⟩ := good V X hI.oks
    have hS := hI.st X G g2 (fun i _ hi => g1 i hi) (fun _ _ _ => rfl)
    have hpr : ∀ (X' : Nat → Nat × Nat) (G' : Nat → Value), (∀ i, listed.getD i false = true → (pr i).isSome = true → G' i = V i) → (∀ i, listed.getD i false = true → (pr i).isSome = true → X' i = X i) → ∀ i R, waits l.toArray j i = true → pr i = some R → R.B (X' i) (G' i) w := fun X' G' hG' hX' i R hi hR => by
      have hl := hwl i hi
      rw [hG' i hl (by rw [hR]; rfl), hX' i hl (by rw [hR]; rfl)]
      exact hI.preds i R hl hR
    cases hp : pr j with
    | none =>
      have hy := YieldsIf.look hsl (g2.light j oj hlj (by rw [Nat.zero_add]; exact hp)) (hS.look ho hI.size hlj hdeps)
      have hSw : Below W.heap.size W w ∧ (∀ p ∈ ([] : List (Nat × (World → Prop))), waits l.toArray (0 + j) p.1 = true → p.2 w) ∧ ∀ i R, waits l.toArray (0 + j) (0 + i) = true → pr (0 + i) = some R → R.B (X (0 + i)) (G i) w := by
        refine ⟨hI.below, fun p hp => (by cases hp), fun i R hi hR => ?_⟩
        rw [Nat.zero_add, Nat.zero_add] at hi
        rw [Nat.zero_add] at hR ⊢
        exact hpr X G (fun i _ hi => g1 i hi) (fun _ _ _ => rfl) i R hi hR
      refine hy.wpOp hoj hSw ?_
      refine ih _ _ w V X hcnt ⟨by simpa using hI.size, closedL_set hI.cl hoj hdeps, hI.below, fun i R hl hR => ?_, fun i hl hs => ?_, fun i i' hii hl hl' hs hs' => ?_, fun i R hR => ?_, fun X' G' hG' hV' hX' => ?_⟩
      · have hij : i ≠ j := fun e => by rw [e, hp] at hR; cases hR
        rw [old i hij] at hl
        exact hI.preds i R hl hR
      · have hij : i ≠ j := fun e => by rw [e, hp] at hs; cases hs
        rw [old i hij] at hl
        exact hI.top i hl hs
      · have hij : i ≠ j := fun e => by rw [e, hp] at hs; cases hs
        have hij' : i' ≠ j := fun e => by rw [e, hp] at hs'; cases hs'
        rw [old i hij] at hl
        rw [old i' hij'] at hl'
        exact hI.dis i i' hii hl hl' hs hs'
      · exact hI.oks i R hR
      · have hV : ∀ i, listed.getD i false = true → (pr i).isSome = true → G' i = V i := fun i hl hi => by
          have hij : i ≠ j := fun e => by rw [e, hp] at hi; cases hi
          exact hV' i (by rw [old i hij]; exact hl) hi
        have hX : ∀ i, listed.getD i false = true → (pr i).isSome = true → X' i = X i := fun i hl hi => by
          have hij : i ≠ j := fun e => by rw [e, hp] at hi; cases hi
          exact hX' i (by rw [old i hij]; exact hl) hi
        have hS' := hI.st X' G' hG' hV hX
        have hy' := YieldsIf.look hsl (hG'.light j oj hlj (by rw [Nat.zero_add]; exact hp)) (hS'.look ho hI.size hlj hdeps)
        have hSw' : Below W.heap.size W w ∧ (∀ p ∈ ([] : List (Nat × (World → Prop))), waits l.toArray (0 + j) p.1 = true → p.2 w) ∧ ∀ i R, waits l.toArray (0 + j) (0 + i) = true → pr (0 + i) = some R → R.B (X' (0 + i)) (G' i) w := by
          refine ⟨hI.below, fun p hp => (by cases hp), fun i R hi hR => ?_⟩
          rw [Nat.zero_add, Nat.zero_add] at hi
          rw [Nat.zero_add] at hR ⊢
          exact hpr X' G' hV hX i R hi hR
        rw [YieldsIf.one hy hy' hSw hSw']
        exact hS'.step ho hI.size hlj
    | some R =>
      refine heavy_wpOp hoj hsl (g2.heavy j oj R hlj (by rw [Nat.zero_add]; exact hp) w hI.below (fun p hp => by cases hp) (fun i R' hi hR' => ?_)) (hS.look ho hI.size hlj hdeps) (by rw [actAt_size, hS.size]) (fun v w' hb hv => ?_)
      · rw [Nat.zero_add, Nat.zero_add] at hi
        rw [Nat.zero_add] at hR' ⊢
        exact hpr X G (fun i _ hi => g1 i hi) (fun _ _ _ => rfl) i R' hi hR'
      · refine ih _ _ w' (fun i => if i = j then v else V i) (fun i => if i = j then (w.heap.size, w'.heap.size) else X i) hcnt ⟨by simpa using hI.size, closedL_set hI.cl hoj hdeps, hI.below.trans (hb.mono hI.below.size), fun i R' hl hR' => ?_, fun i hl hs => ?_, fun i i' hii hl hl' hs hs' => ?_, fun i R' hR' => ?_, fun X' G' hG' hV' hX' => ?_⟩
        · by_cases hij : i = j
          · subst hij
            rw [hp] at hR'
            injection hR' with hR'
            subst hR'
            show R.B (if i = i then (w.heap.size, w'.heap.size) else X i) (if i = i then v else V i) w'
            rw [if_pos rfl, if_pos rfl]
            exact hv
          · show R'.B (if i = j then (w.heap.size, w'.heap.size) else X i) (if i = j then v else V i) w'
            rw [if_neg hij, if_neg hij]
            rw [old i hij] at hl
            exact R'.stay _ _ w w' hb (hI.preds i R' hl hR')
        · show (if i = j then (w.heap.size, w'.heap.size) else X i).2 ≤ w'.heap.size
          by_cases hij : i = j
          · rw [if_pos hij]; exact Nat.le_refl _
          · rw [if_neg hij]
            rw [old i hij] at hl
            exact Nat.le_trans (hI.top i hl hs) hb.size
        · show apartD (if i = j then (w.heap.size, w'.heap.size) else X i) (if i' = j then (w.heap.size, w'.heap.size) else X i')
          by_cases hij : i = j
          · have hij' : i' ≠ j := fun e => hii (hij.trans e.symm)
            rw [if_pos hij, if_neg hij']
            rw [old i' hij'] at hl'
            exact .inr (hI.top i' hl' hs')
          · rw [if_neg hij]
            rw [old i hij] at hl
            by_cases hij' : i' = j
            · rw [if_pos hij']
              exact .inl (hI.top i hl hs)
            · rw [if_neg hij']
              rw [old i' hij'] at hl'
              exact hI.dis i i' hii hl hl' hs hs'
        · by_cases hij : i = j
          · subst hij
            rw [hp] at hR'
            injection hR' with hR'
            subst hR'
            show R.ok (if i = i then v else V i)
            rw [if_pos rfl]
            exact R.imp _ _ _ hv
          · show R'.ok (if i = j then v else V i)
            rw [if_neg hij]
            exact hI.oks i R' hR'
        · have hV : ∀ i, listed.getD i false = true → (pr i).isSome = true → G' i = V i := fun i hl hi => by
            have hij : i ≠ j := fun e => by rw [e, hjd] at hl; cases hl
            have := hV' i (by rw [old i hij]; exact hl) hi
            rwa [if_neg hij] at this
          have hX : ∀ i, listed.getD i false = true → (pr i).isSome = true → X' i = X i := fun i hl hi => by
            have hij : i ≠ j := fun e => by rw [e, hjd] at hl; cases hl
            have := hX' i (by rw [old i hij]; exact hl) hi
            rwa [if_neg hij] at this
          have hS' := hI.st X' G' hG' hV hX
          have hGj := hV' j (by simp [hjl']) (by rw [hp]; rfl)
          rw [if_pos rfl] at hGj
          rw [← hGj]
          exact hS'.step ho hI.size hlj
theorem flockD_start {l : List Oper} {a : Act} {w : World} (hf : flockD P l.toArray w pr (Q .normal) 0 [] [] l a) (ho : orderly l.toArray = true) :
    wpAny P .any l.toArray Q l.toArray.size (Array.replicate l.toArray.size false) a w := by
  have hV : ∃ V : Nat → Value, ∀ j R, pr j = some R → R.ok (V j) := ⟨fun j => match pr j with | none => undef | some R => Classical.choose R.dum, fun j R hR => by simp only [hR]; exact Classical.choose_spec R.dum⟩
  obtain ⟨V, hV⟩ := hV
  refine wpAny_flockD ho hf _ _ a _ V (fun _ => (0, 0)) (by simp [List.countP_replicate]) ⟨by simp, fun j oj _ hl => ?_, Below.refl _ _, fun j R hl => ?_, fun j hl => ?_, fun i j _ hl => ?_, hV, fun X' G hG _ _ => ⟨rfl, rfl, fun i o t hi _ hl => ?_, fun _ _ => rfl⟩⟩
  · simp [Array.getD_eq_getD_getElem?, Array.getElem?_replicate] at hl
    split at hl <;> simp at hl
  · simp [Array.getD_eq_getD_getElem?, Array.getElem?_replicate] at hl
    split at hl <;> simp at hl
  · simp [Array.getD_eq_getD_getElem?, Array.getElem?_replicate] at hl
    split at hl <;> simp at hl
  · simp [Array.getD_eq_getD_getElem?, Array.getElem?_replicate] at hl
    split at hl <;> simp at hl
  · have : i < l.length := (List.getElem?_eq_some_iff.1 hi).1
    simp [this] at hl
/-- **a drawn region, walked once in the order of its text** -/
theorem wp_region_flockD {id : Nat} {l : List Oper} {a : Act} {w : World} (pr : Nat → Option Bv) (hm : P.follows .mixedOrders = true) (ho : orderly l.toArray = true)
    (hf : flockD P l.toArray w.drew pr (Q .normal) 0 [] [] l a) : (Code.region id l.toArray true).wp P Q a w :=
  wp_region_any hm (flockD_start hf ho)
theorem wp_region_flockD_tail {id : Nat} {ls : List Oper} {a : Act} {w : World} (n : Nat) (pr : Nat → Option Bv) (hm : P.follows .mixedOrders = true)
    (hl : ((List.range (ls.length - n)).all fun i => lastIn (ls.take (n + (i + 1))).toArray (n + i) && orderly (ls.take (n + (i + 1))).toArray) = true) (hn : decide (n ≤ ls.length) = true) (ho : orderly (ls.take n).toArray = true)
    (hf : flockD P (ls.take n).toArray w.drew pr (fun a' w' => wpList P ls.toArray Q (ls.drop n) a' w') 0 [] [] (ls.take n) a) : (Code.region id ls.toArray true).wp P Q a w := by
  have hn := of_decide_eq_true hn
  rw [List.all_eq_true] at hl
  have hln : (ls.take n).length = n := by rw [List.length_take]; omega
  have htk : ∀ i, ls.take n ++ (ls.drop n).take i = ls.take (n + i) := fun i => by rw [List.take_add]
  have htd : ls.take n ++ ls.drop n = ls := List.take_append_drop n ls
  refine wp_region_any hm ?_
  obtain ⟨Qh, h1, h2⟩ := tail_up (P := P) (ls.take n) _ (ls.drop n) Q rfl (fun i hi => by
      have := hl i (List.mem_range.2 (by simpa using hi))
      rw [Bool.and_eq_true] at this
      rw [htk, hln]
      exact this.1) (fun i hi => by
      cases i with
      | zero => simpa using ho
      | succ i =>
        have := hl i (List.mem_range.2 (by simp at hi; omega))
        rw [Bool.and_eq_true] at this
        rw [htk]
        exact this.2)
  rw [htd] at h1 h2
  have H := flockD_start (Q := Qh) (l := ls.take n) (a := a) (w := w.drew) (pr := pr) (flockD_mono h1 _ 0 [] [] a hf) ho
  have h3 := h2 (ls.take n).length a w.drew (by
    simp only [List.size_toArray] at H
    exact H)
  have e : (ls.take n).length + (ls.drop n).length = ls.toArray.size := by simp; omega
  rw [e] at h3
  exact h3
end
end Go.Proofs.YtpbflgemhcaooaaDoor
/- What is known of heavy operations' results, with the blocks that were born: new boxes. -/
namespace Go.Proofs.YtpbflgemhcaooaaDoor
open Go.RowKit
set_option linter.unusedVariables false
/-- a new box -/
def Bv.box (lo : Nat) (cs : Array Value) (t : TypeId) : Bv where
  B x v w := ∃ g, v = .pointer (some ⟨g, 0, none⟩) ∧ lo ≤ g ∧ x.1 ≤ g ∧ g < x.2 ∧ w.heap[g]? = some (.cells cs t (0, 0))
  ok v := ∃ g, v = .pointer (some ⟨g, 0, none⟩)
  imp _ v w h := by obtain ⟨g, e, _⟩ := h; exact ⟨g, e⟩
  dum := ⟨_, 0, rfl⟩
  stay _ v w w' hb h := by obtain ⟨g, e, h0, h1, h2, hg⟩ := h; exact ⟨g, e, h0, h1, h2, (hb.block g (Array.getElem?_eq_some_iff.1 hg).1).trans hg⟩
theorem pw_get {l : List (Nat × Nat)} (h : l.Pairwise apartD) (i j : Nat) (hij : decide (i < j) = true) {x y : Nat × Nat} (hx : l[i]? = some x) (hy : l[j]? = some y) : apartD x y := by
  have hi := (List.getElem?_eq_some_iff.1 hx)
  have hj := (List.getElem?_eq_some_iff.1 hy)
  obtain ⟨h1, rfl⟩ := hi
  obtain ⟨h2, rfl⟩ := hj
  exact List.pairwise_iff_getElem.1 h i j h1 h2 (of_decide_eq_true hij)
theorem bvbox {w : World} {A l lo hi : Nat} {o : Obj} (h : ∃ g, Value.pointer (some ⟨A, 0, none⟩) = .pointer (some ⟨g, 0, none⟩) ∧ l ≤ g ∧ lo ≤ g ∧ g < hi ∧ w.heap[g]? = some o) : l ≤ A ∧ lo ≤ A ∧ A < hi ∧ w.heap[A]? = some o := by
  obtain ⟨g, e, h0, h1, h2, hg⟩ := h
  injection e with e
  injection e with e
  injection e with e
  subst e
  exact ⟨h0, h1, h2, hg⟩
/-- an address that was born with one is not born with another -/
theorem apart_box {x y : Nat × Nat} {A : Nat} (h : apartD x y) (h1 : y.1 ≤ A) (h2 : A < y.2) : A < x.1 ∨ x.2 ≤ A := by unfold apartD at h; omega
theorem apart_box' {x y : Nat × Nat} {A : Nat} (h : apartD y x) (h1 : y.1 ≤ A) (h2 : A < y.2) : A < x.1 ∨ x.2 ≤ A := by unfold apartD at h; omega
theorem apart_ne {x y : Nat × Nat} {A B : Nat} (h : apartD x y) (h1 : x.1 ≤ A) (h2 : A < x.2) (h3 : y.1 ≤ B) (h4 : B < y.2) : A ≠ B := by unfold apartD at h; omega
end Go.Proofs.YtpbflgemhcaooaaDoor
