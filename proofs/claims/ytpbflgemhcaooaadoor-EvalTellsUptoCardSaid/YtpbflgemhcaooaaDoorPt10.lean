import Derived.Test.YtpbflgemhcaooaaDoorPt9
/- A drawn region whose last operation (a store) waits for all others: ahead of it the walk is a trail over the others, and what holds of the worlds there need not hold behind it. -/
namespace Go.Proofs.YtpbflgemhcaooaaDoor
open Go.RowKit
set_option linter.unusedSimpArgs false
section
variable {P : Program} {ops : Array Oper} {Q : Exit → Act → World → Prop} {S : World → Prop}

/-- the last one waits for all others; no guard looks at it -/
def lastWaits (ops : Array Oper) (p : Nat) : Bool :=
  decide (p + 1 = ops.size) && (List.range p).all fun k => (Region.waitsFor .any ops p k || (List.range p).any fun j => Region.waitsFor .any ops p j && Region.waitsFor .any ops j k) && match ops[k]? with
    | some o => o.after.all (fun e => decide (e.on < p)) && match o.guard with
      | some (g, _) => decide (g < p)
      | none => true
    | none => true

theorem lastWaits_spec {p : Nat} (h : lastWaits ops p = true) : p + 1 = ops.size ∧ (∀ k, k < p → Region.waitsFor .any ops p k = true ∨ ∃ j, j < p ∧ Region.waitsFor .any ops p j = true ∧ Region.waitsFor .any ops j k = true) ∧
    (∀ k o, k < p → ops[k]? = some o → (∀ e ∈ o.after, e.on < p) ∧ ∀ g b, o.guard = some (g, b) → g < p) := by
  unfold lastWaits at h
  rw [Bool.and_eq_true, decide_eq_true_eq, List.all_eq_true] at h
  refine ⟨h.1, fun k hk => ?_, fun k o hk ho => ?_⟩
  · have := h.2 k (List.mem_range.2 hk)
    rw [Bool.and_eq_true] at this
    have h1 := this.1
    rw [Bool.or_eq_true, List.any_eq_true] at h1
    refine h1.imp id fun ⟨j, hj, h2⟩ => ⟨j, List.mem_range.1 hj, ?_⟩
    rw [Bool.and_eq_true] at h2
    exact h2
  · have := h.2 k (List.mem_range.2 hk)
    rw [Bool.and_eq_true] at this
    have h2 := this.2
    rw [ho] at h2
    simp only [Bool.and_eq_true, Array.all_eq_true_iff_forall_mem, decide_eq_true_eq] at h2
    refine ⟨h2.1, fun g b hg => ?_⟩
    have h3 := h2.2
    rw [hg] at h3
    simpa using h3

theorem pop_get {p : Nat} (hp : p + 1 = ops.size) {k : Nat} (hk : k < p) : ops.pop[k]? = ops[k]? := by
  rw [Array.getElem?_pop]
  rw [if_pos (by omega)]

theorem pop_none {p : Nat} (hp : p + 1 = ops.size) {k : Nat} (hk : p ≤ k) : ops.pop[k]? = none := by
  rw [Array.getElem?_eq_none]
  simp
  omega

theorem wanted_pop {p : Nat} (hp : p + 1 = ops.size) {o : Oper} (hg : ∀ g b, o.guard = some (g, b) → g < p) (a : Act) : Region.wanted o (yielded ops.pop a.tmps) = Region.wanted o (yielded ops a.tmps) := by
  unfold Region.wanted
  cases ho : o.guard with
  | none => rfl
  | some gw =>
    obtain ⟨g, want⟩ := gw
    have hlt := hg g want ho
    have : yielded ops.pop a.tmps g = yielded ops a.tmps g := by
      unfold yielded
      rw [pop_get hp hlt]
    simp only [this]

theorem wpOp_pop {p i : Nat} (h : lastWaits ops p = true) (hi : i < p) {Z K : Act → World → Prop} {a : Act} {w : World} (hh : wpOp P ops.pop (onNormal Z Q) i K a w) : wpOp P ops Q i K a w := by
  obtain ⟨hp, _, hs⟩ := lastWaits_spec h
  unfold wpOp at *
  rw [pop_get hp hi] at hh
  cases ho : ops[i]? with
  | none => rw [ho] at hh; exact hh
  | some o =>
    rw [ho] at hh
    simp only at hh ⊢
    rw [wanted_pop hp (hs i o hi ho).2] at hh
    split
    · rename_i hw
      rw [if_pos hw] at hh
      refine hh.imp (fun h => ?_) (fun h => ⟨h.1, ?_⟩)
      · unfold Oper.wp at *
        generalize (execOp a.eval o).run P w = r at *
        cases r with
        | ok n w' =>
          cases n <;> simp only [Oper.upon] at h ⊢ <;> exact h
        | halt x w' => cases x <;> simp only [Oper.upon] at h ⊢ <;> exact h
      · obtain ⟨a', w', h2⟩ := h.2
        exact ⟨a', w', h2⟩
    · rename_i hw
      rw [if_neg hw] at hh
      exact hh

theorem ready_pop {p : Nat} (h : lastWaits ops p = true) {listed : Array Bool} (hsz : listed.size = ops.size) {i : Nat} (hi : i < p) : i ∈ Region.ready .any ops listed ↔ i ∈ Region.ready .any ops.pop listed.pop := by
  obtain ⟨hp, _, hs⟩ := lastWaits_spec h
  have hg : ∀ k b, k < p → listed.pop.getD k b = listed.getD k b := fun k b hk => by
    have h1 : k < listed.size := by omega
    have h2 : k < listed.size - 1 := by omega
    simp [Array.getD_eq_getD_getElem?, Array.getElem?_pop, h1, h2]
  rw [mem_ready, mem_ready, pop_get hp hi, hg i true hi]
  constructor
  · rintro ⟨h1, o, h2, h3⟩
    exact ⟨h1, o, h2, fun e he hb => by rw [hg e.on false ((hs i o hi h2).1 e he)]; exact h3 e he hb⟩
  · rintro ⟨h1, o, h2, h3⟩
    exact ⟨h1, o, h2, fun e he hb => by have := h3 e he hb; rwa [hg e.on false ((hs i o hi h2).1 e he)] at this⟩

theorem pop_set {listed : Array Bool} {p i : Nat} (hp : p + 1 = listed.size) (hi : i < p) : (listed.setIfInBounds i true).pop = listed.pop.setIfInBounds i true := by
  apply Array.ext_getElem?
  intro k
  simp only [Array.getElem?_pop, Array.getElem?_setIfInBounds, Array.size_setIfInBounds, Array.size_pop]
  by_cases hk : k < listed.size - 1
  · simp only [hk, if_true]
    by_cases hik : i = k
    · subst hik
      have : i < listed.size := by omega
      simp [this, hk]
    · simp [hik]
  · simp only [hk, if_false]
    by_cases hik : i = k
    · omega
    · simp [hik]

/-- what is listed has all that it waits for listed -/
def closedL (ops : Array Oper) (listed : Array Bool) : Prop := ∀ j oj, ops[j]? = some oj → listed.getD j false = true → ∀ e ∈ oj.after, Region.binds .any e = true → listed.getD e.on false = true
theorem closedL_set {listed : Array Bool} (hc : closedL ops listed) {i : Nat} {o : Oper} (hi : ops[i]? = some o) (hd : ∀ e ∈ o.after, Region.binds .any e = true → listed.getD e.on false = true) : closedL ops (listed.setIfInBounds i true) := by
  have keep : ∀ k, listed.getD k false = true → (listed.setIfInBounds i true).getD k false = true := fun k hk => by
    by_cases hki : k = i
    · subst hki
      rcases Nat.lt_or_ge k listed.size with h | h
      · simp [h]
      · simp [Array.getElem?_eq_none h] at hk
    · rw [getD_set_ne false (fun e => hki e.symm)]; exact hk
  intro j oj hj hl e he hb
  by_cases hji : j = i
  · subst hji
    rw [hi] at hj
    injection hj with hj
    subst hj
    exact keep _ (hd e he hb)
  · rw [getD_set_ne false (fun e => hji e.symm)] at hl
    exact keep _ (hc j oj hj hl e he hb)
theorem wpAny_last {p : Nat} (h : lastWaits ops p = true) (ho : orderly ops = true) :
    ∀ (fuel : Nat) (listed : Array Bool) (a : Act) (w : World), listed.size = ops.size → closedL ops listed → listed.getD p true = false →
    wpAnyH P .any ops.pop (onNormal (fun a' w' => wpOp P ops Q p (fun a2 w2 => Q .normal a2 w2) a' w') Q) S fuel listed.pop a w → wpAny P .any ops Q (fuel + 1) listed a w := by
  obtain ⟨hp, hw, hs⟩ := lastWaits_spec h
  intro fuel
  induction fuel with
  | zero =>
    intro listed a w hsz hcl hl H
    refine ⟨fun hr => ?_, fun i hi => ?_⟩
    · have := ready_none ho hr hsz p (by omega)
      rw [this] at hl; cases hl
    · have hir := hi
      obtain ⟨h1, o, h2, h3⟩ := mem_ready.1 hi
      have hil : i < ops.size := (Array.getElem?_eq_some_iff.1 h2).1
      by_cases hip : i = p
      · subst hip
        have hall : ∀ k, k < ops.size → (listed.setIfInBounds i true).getD k true = true := fun k hk => by
          by_cases hki : k = i
          · subst hki
            have : k < listed.size := by omega
            simp [this]
          · rw [getD_set_ne true (fun e => hki e.symm)]
            have hks : k < listed.size := by omega
            rw [show listed.getD k true = listed.getD k false by simp [hks]]
            have dir : ∀ j, Region.waitsFor .any ops i j = true → listed.getD j false = true := fun j hj => by
              obtain ⟨o', ho', e, he, hb, hek⟩ := Region.waitsFor_spec hj
              rw [h2] at ho'
              injection ho' with ho'
              subst ho'
              have := h3 e he hb
              rwa [hek] at this
            rcases hw k (by omega) with hd | ⟨j, _, hj1, hj2⟩
            · exact dir k hd
            · obtain ⟨o', ho', e, he, hb, hek⟩ := Region.waitsFor_spec hj2
              have := hcl j o' ho' (dir j hj1) e he hb
              rwa [hek] at this
        have hz := H.2
        refine wpOp_mono (fun a' w' hQ => ?_) hz
        refine ⟨?_, hQ⟩
        cases hr : Region.ready .any ops (listed.setIfInBounds i true) with
        | nil => rfl
        | cons x xs =>
          have hm : x ∈ Region.ready .any ops (listed.setIfInBounds i true) := by rw [hr]; exact List.mem_cons_self
          obtain ⟨g1, g2, g3, _⟩ := mem_ready.1 hm
          rw [hall x (Array.getElem?_eq_some_iff.1 g3).1] at g1
          cases g1
      · have := (ready_pop h hsz (by omega : i < p)).1 hir
        rw [H.1] at this
        cases this
  | succ fuel ih =>
    intro listed a w hsz hcl hl H
    refine ⟨fun hr => ?_, fun i hi => ?_⟩
    · have := ready_none ho hr hsz p (by omega)
      rw [this] at hl; cases hl
    · have hir := hi
      obtain ⟨h1, o, h2, h3⟩ := mem_ready.1 hi
      have hil : i < ops.size := (Array.getElem?_eq_some_iff.1 h2).1
      by_cases hip : i = p
      · subst hip
        have hall : ∀ k, k < ops.size → (listed.setIfInBounds i true).getD k true = true := fun k hk => by
          by_cases hki : k = i
          · subst hki
            have : k < listed.size := by omega
            simp [this]
          · rw [getD_set_ne true (fun e => hki e.symm)]
            have hks : k < listed.size := by omega
            rw [show listed.getD k true = listed.getD k false by simp [hks]]
            have dir : ∀ j, Region.waitsFor .any ops i j = true → listed.getD j false = true := fun j hj => by
              obtain ⟨o', ho', e, he, hb, hek⟩ := Region.waitsFor_spec hj
              rw [h2] at ho'
              injection ho' with ho'
              subst ho'
              have := h3 e he hb
              rwa [hek] at this
            rcases hw k (by omega) with hd | ⟨j, _, hj1, hj2⟩
            · exact dir k hd
            · obtain ⟨o', ho', e, he, hb, hek⟩ := Region.waitsFor_spec hj2
              have := hcl j o' ho' (dir j hj1) e he hb
              rwa [hek] at this
        have hnil : Region.ready .any ops (listed.setIfInBounds i true) = [] := by
          cases hr : Region.ready .any ops (listed.setIfInBounds i true) with
          | nil => rfl
          | cons x xs =>
            have hm : x ∈ Region.ready .any ops (listed.setIfInBounds i true) := by rw [hr]; exact List.mem_cons_self
            obtain ⟨g1, g2, g3, _⟩ := mem_ready.1 hm
            rw [hall x (Array.getElem?_eq_some_iff.1 g3).1] at g1
            cases g1
        have hpn : Region.ready .any ops.pop listed.pop = [] := by
          cases hr : Region.ready .any ops.pop listed.pop with
          | nil => rfl
          | cons x xs =>
            have hm : x ∈ Region.ready .any ops.pop listed.pop := by rw [hr]; exact List.mem_cons_self
            obtain ⟨g1, g2, g3, _⟩ := mem_ready.1 hm
            have hx : x < i := by
              have := (Array.getElem?_eq_some_iff.1 g3).1
              simp at this
              omega
            have hm2 := (ready_pop h hsz hx).2 hm
            obtain ⟨g1', _⟩ := mem_ready.1 hm2
            have := hall x (by omega)
            rw [getD_set_ne true (by omega)] at this
            rw [this] at g1'
            cases g1'
        have hz := H.1 hpn
        refine wpOp_mono (fun a' w' hQ => ?_) hz
        exact ⟨fun _ => hQ, by rw [hnil]; simp⟩
      · have hlt : i < p := by omega
        have h4 := H.2 i ((ready_pop h hsz hlt).1 hir)
        refine wpOp_mono (fun a' w' h5 => ?_) (wpOp_pop h hlt h4)
        refine ih (listed.setIfInBounds i true) a' w' (by simpa using hsz) (closedL_set hcl h2 h3) ?_ ?_
        · rw [getD_set_ne true hip]; exact hl
        · rw [pop_set (by omega) hlt]; exact h5.2

/-- **A drawn region that ends with a store**: the order speaks of all but the last operation. -/
theorem wp_region_last {id : Nat} {a : Act} {w : World} (S : World → Prop) (order : List (Nat × Bool)) (p : Nat) (hm : P.follows .mixedOrders = true) (hs : Region.noSelect ops.pop = true) (h : lastWaits ops p = true) (hy : orderly ops = true)
    (ho : ordered ops.pop order (Array.replicate ops.pop.size false) = true) (hl : decide (order.length ≤ ops.pop.size) = true) (hS : S w.drew)
    (ht : trail P ops.pop (onNormal (fun a' w' => wpOp P ops Q p (fun a2 w2 => Q .normal a2 w2) a' w') Q) S order a w.drew) : (Code.region id ops true).wp P Q a w := by
  obtain ⟨hp, _, _⟩ := lastWaits_spec h
  refine wp_region_any hm ?_
  have H := trail_wpAnyH hs order ops.pop.size (Array.replicate ops.pop.size false) a w.drew (of_decide_eq_true hl) ho hS ht
  have e : (Array.replicate ops.size false).pop = Array.replicate ops.pop.size false := by
    apply Array.ext_getElem?
    intro k
    simp [Array.getElem?_pop, Array.getElem?_replicate]
  have h1 := wpAny_last (S := S) h hy ops.pop.size (Array.replicate ops.size false) a w.drew (by simp) (fun j oj _ hl => by
    simp [Array.getD_eq_getD_getElem?, Array.getElem?_replicate] at hl
    split at hl <;> simp at hl) (by
    have : p < ops.size := by omega
    simp [this]) (by rw [e]; exact H)
  have e2 : ops.pop.size + 1 = ops.size := by simp; omega
  rw [e2] at h1
  exact h1
theorem last_op {p : Nat} {o : Oper} {a : Act} {w : World} (hi : ops[p]? = some o) (h : wpList P ops Q [o] a w) : wpOp P ops Q p (fun a2 w2 => Q .normal a2 w2) a w := by
  unfold wpOp
  simp only [hi]
  unfold wpList at h
  split
  · rename_i hw
    rw [if_pos hw] at h
    exact h
  · rename_i hw
    rw [if_neg hw] at h
    exact h
theorem last_at {p : Nat} {o : Oper} {a : Act} {w : World} (hi : ops[p]? = some o) (h : wpList P ops Q [o] a w) : onNormal (fun a' w' => wpOp P ops Q p (fun a2 w2 => Q .normal a2 w2) a' w') Q .normal a w := last_op hi h
end
end Go.Proofs.YtpbflgemhcaooaaDoor
