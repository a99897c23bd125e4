import Derived.Test.YtpbflgemhcaooaaDoorChain
/- A drawn region in one given order: an operation is taken when it leaves the world alone and reads only what stays (it is 'light'), or when nothing else may come up (it is 'heavy': a call, a store, an append). -/
namespace Go.Proofs.YtpbflgemhcaooaaDoor
open Go.RowKit
section
variable {P : Program} {ops : Array Oper} {Q : Exit → Act → World → Prop} {S : World → Prop}

/-- is the order one in which the region may be walked? -/
def ordered (ops : Array Oper) : List (Nat × Bool) → Array Bool → Bool
  | [], listed => (Region.ready .any ops listed).isEmpty
  | (i, light) :: rest, listed =>
    (if light then Region.free .any ops listed i && (Region.ready .any ops listed).contains i else Region.ready .any ops listed == [i]) && ordered ops rest (listed.setIfInBounds i true)

/-- light: in every world that is right it leaves v, and the world as it is -/
def light1 (P : Program) (ops : Array Oper) (S : World → Prop) (o : Oper) (a : Act) (v : Value) : Prop := YieldsIf P ops S o v a

theorem light_plain {o : Oper} {a : Act} {v : Value} (hg : o.guard = none) (h : ∀ w, S w → (execOp a.eval o).run P w = .ok (.value v) w) : light1 P ops S o a v :=
  .inl ⟨by simp [Region.wanted, hg], h⟩
theorem light_yes {o : Oper} {a : Act} {v : Value} (hw : Region.wanted o (yielded ops a.tmps) = true) (h : ∀ w, S w → (execOp a.eval o).run P w = .ok (.value v) w) : light1 P ops S o a v :=
  .inl ⟨hw, h⟩
theorem light_no {o : Oper} {a : Act} (hw : Region.wanted o (yielded ops a.tmps) = false) : light1 P ops S o a undef := .inr ⟨hw, rfl⟩

/-- the walk in an order -/
def trail (P : Program) (ops : Array Oper) (Q : Exit → Act → World → Prop) (S : World → Prop) : List (Nat × Bool) → Act → World → Prop
  | [], a, w => Q .normal a w
  | (i, true) :: rest, a, w => ∃ o v, ops[i]? = some o ∧ (∀ c a' w', Q (.panic c) (a'.put o.dst v) w' → Q (.panic c) a' w') ∧ light1 P ops S o a v ∧ trail P ops Q S rest (a.put o.dst v) w
  | (i, false) :: rest, a, w => wpOp P ops Q i (fun a' w' => S w' ∧ trail P ops Q S rest a' w') a w

theorem trail_wpAnyH (hs : Region.noSelect ops = true) : ∀ (order : List (Nat × Bool)) (fuel : Nat) (listed : Array Bool) (a : Act) (w : World), order.length ≤ fuel → ordered ops order listed = true → S w → trail P ops Q S order a w → wpAnyH P .any ops Q S fuel listed a w
  | [], fuel, listed, a, w, _, ho, _, h => wpAnyH_done (by unfold ordered at ho; simpa using ho) h fuel
  | (i, l) :: rest, 0, listed, a, w, hf, _, _, _ => absurd hf (by simp)
  | (i, true) :: rest, fuel + 1, listed, a, w, hf, ho, hS, h => by
    obtain ⟨o, v, hi, hQ, hl, hr⟩ := h
    unfold ordered at ho
    simp only [if_true, Bool.and_eq_true] at ho
    exact wpAnyH_take hi hs ho.1.1 ho.1.2 (fun c a' w' => hQ c a' w') hl hS (trail_wpAnyH hs rest fuel _ _ _ (by simpa using hf) ho.2 hS hr)
  | (i, false) :: rest, fuel + 1, listed, a, w, hf, ho, hS, h => by
    unfold ordered at ho
    simp only [Bool.false_eq_true, if_false, Bool.and_eq_true, beq_iff_eq] at ho
    refine wpAnyH_all ho.1 (by simp) fun j hj => ?_
    have : j = i := by simpa using hj
    subst this
    exact wpOp_mono (fun a' w' h' => ⟨h'.1, trail_wpAnyH hs rest fuel _ _ _ (by simpa using hf) ho.2 h'.1 h'.2⟩) h

theorem wp_region_trail {id : Nat} {a : Act} {w : World} (S : World → Prop) (order : List (Nat × Bool)) (hm : P.follows .mixedOrders = true) (hs : Region.noSelect ops = true)
    (ho : ordered ops order (Array.replicate ops.size false) = true) (hl : order.length ≤ ops.size) (hS : S w.drew) (h : trail P ops Q S order a w.drew) : (Code.region id ops true).wp P Q a w :=
  wp_region_held hm (trail_wpAnyH hs order _ _ _ _ hl ho hS h)

theorem trail_light {i : Nat} {o : Oper} {rest : List (Nat × Bool)} {a : Act} {w : World} {v : Value} (hi : ops[i]? = some o) (hl : light1 P ops S o a v) (hQ : ∀ c a' w', Q (.panic c) (a'.put o.dst v) w' → Q (.panic c) a' w')
    (hr : trail P ops Q S rest (a.put o.dst v) w) : trail P ops Q S ((i, true) :: rest) a w := ⟨o, v, hi, hQ, hl, hr⟩
theorem trail_nil {a : Act} {w : World} (h : Q .normal a w) : trail P ops Q S [] a w := h
/-- K where it goes on, else Q -/
def onNormal (K : Act → World → Prop) (Q : Exit → Act → World → Prop) : Exit → Act → World → Prop
  | .normal, a, w => K a w
  | e, a, w => Q e a w
theorem trail_heavy {i : Nat} {o : Oper} {rest : List (Nat × Bool)} {a : Act} {w : World} (hi : ops[i]? = some o)
    (h : wpList P ops (onNormal (fun a' w' => S w' ∧ trail P ops Q S rest a' w') Q) [o] a w) : trail P ops Q S ((i, false) :: rest) a w := by
  show wpOp P ops Q i (fun a' w' => S w' ∧ trail P ops Q S rest a' w') a w
  unfold wpOp
  simp only [hi]
  unfold wpList at h
  split
  · rename_i hw
    rw [if_pos hw] at h
    refine h.imp (fun h => ?_) (fun h => ⟨h.1, ?_⟩)
    · unfold Oper.wp at *
      generalize (execOp a.eval o).run P w = r at *
      cases r with
      | ok n w' =>
        cases n <;> simp only [Oper.upon] at h ⊢ <;> exact h
      | halt x w' => cases x <;> simp only [Oper.upon] at h ⊢ <;> exact h
    · obtain ⟨a', w', h2⟩ := h.2
      exact ⟨a', w', h2⟩
  · rename_i hw
    rw [if_neg hw] at h
    exact h
end
end Go.Proofs.YtpbflgemhcaooaaDoor
