import Derived.Test.YtljcgcllhcdleaaFo12
/- A drawn region whose last operation (a counter's beginning) is taken ahead of all others. -/
namespace Go.Proofs.Ytljcgcllhcdleaa
open Go.RowKit
set_option linter.unusedSimpArgs false
set_option linter.unusedVariables false
section
variable {P : Program} {ops : Array Oper} {Q : Exit → Act → World → Prop}
theorem wpAny_flock_tail {ls : List Oper} {a : Act} {w : World} (n : Nat) (pr : Nat → Option Hv)
    (hl : ((List.range (ls.length - n)).all fun i => lastIn (ls.take (n + (i + 1))).toArray (n + i) && orderly (ls.take (n + (i + 1))).toArray) = true) (hn : decide (n ≤ ls.length) = true) (ho : orderly (ls.take n).toArray = true)
    (hf : flock P (ls.take n).toArray w pr (fun a' w' => wpList P ls.toArray Q (ls.drop n) a' w') 0 [] (ls.take n) a) : wpAny P .any ls.toArray Q ls.toArray.size (Array.replicate ls.toArray.size false) a w := by
  have hn := of_decide_eq_true hn
  rw [List.all_eq_true] at hl
  have hln : (ls.take n).length = n := by rw [List.length_take]; omega
  have htk : ∀ i, ls.take n ++ (ls.drop n).take i = ls.take (n + i) := fun i => by rw [List.take_add]
  have htd : ls.take n ++ ls.drop n = ls := List.take_append_drop n ls
  obtain ⟨Qh, h1, h2⟩ := tail_up (P := P) (ls.take n) _ (ls.drop n) Q rfl (fun i hi => by
      have := hl i (List.mem_range.2 (by simpa using hi))
      rw [Bool.and_eq_true] at this
      rw [htk, hln]
      exact this.1) (fun i hi => by
      cases i with
      | zero => simpa using ho
      | succ i =>
        have := hl i (List.mem_range.2 (by simp at hi; omega))
        rw [Bool.and_eq_true] at this
        rw [htk]
        exact this.2)
  rw [htd] at h1 h2
  have H := flock_start (Q := Qh) (l := ls.take n) (a := a) (w := w) (pr := pr) (flock_mono h1 _ 0 [] a hf) ho
  have h3 := h2 (ls.take n).length a w (by
    simp only [List.size_toArray] at H
    exact H)
  have e : (ls.take n).length + (ls.drop n).length = ls.toArray.size := by simp; omega
  rw [e] at h3
  exact h3
/-- operation p is the last one; nobody waits for it, no guard looks at it -/
def looseIn (ops : Array Oper) (p : Nat) : Bool :=
  decide (p + 1 = ops.size) && (List.range p).all fun k => match ops[k]? with
    | some o => o.after.all (fun e => decide (e.on < p)) && match o.guard with
      | some (g, _) => decide (g < p)
      | none => true
    | none => true
theorem looseIn_spec {p : Nat} (h : looseIn ops p = true) : p + 1 = ops.size ∧ ∀ k o, k < p → ops[k]? = some o → (∀ e ∈ o.after, e.on < p) ∧ ∀ g b, o.guard = some (g, b) → g < p := by
  unfold looseIn at h
  rw [Bool.and_eq_true, decide_eq_true_eq, List.all_eq_true] at h
  refine ⟨h.1, fun k o hk ho => ?_⟩
  have h2 := h.2 k (List.mem_range.2 hk)
  rw [ho] at h2
  simp only [Bool.and_eq_true, Array.all_eq_true_iff_forall_mem, decide_eq_true_eq] at h2
  refine ⟨h2.1, fun g b hg => ?_⟩
  have h3 := h2.2
  rw [hg] at h3
  simpa using h3
theorem loose_ready {p : Nat} (h : looseIn ops p = true) {listed : Array Bool} (hsz : listed.size = ops.size) {i : Nat} (hi : i < p) : i ∈ Region.ready .any ops listed ↔ i ∈ Region.ready .any ops.pop listed.pop := by
  obtain ⟨hp, hs⟩ := looseIn_spec h
  have hg : ∀ k b, k < p → listed.pop.getD k b = listed.getD k b := fun k b hk => by
    have h1 : k < listed.size := by omega
    have h2 : k < listed.size - 1 := by omega
    simp [Array.getD_eq_getD_getElem?, Array.getElem?_pop, h1, h2]
  rw [mem_ready, mem_ready, pop_get hp hi, hg i true hi]
  constructor
  · rintro ⟨h1, o, h2, h3⟩
    exact ⟨h1, o, h2, fun e he hb => by rw [hg e.on false ((hs i o hi h2).1 e he)]; exact h3 e he hb⟩
  · rintro ⟨h1, o, h2, h3⟩
    exact ⟨h1, o, h2, fun e he hb => by have := h3 e he hb; rwa [hg e.on false ((hs i o hi h2).1 e he)] at this⟩
theorem loose_wpOp {p i : Nat} (h : looseIn ops p = true) (hi : i < p) {K : Act → World → Prop} {a : Act} {w : World} (hh : Go.wpOp P ops.pop Q i K a w) : Go.wpOp P ops Q i K a w := by
  obtain ⟨hp, hs⟩ := looseIn_spec h
  unfold Go.wpOp at *
  rw [pop_get hp hi] at hh
  cases ho : ops[i]? with
  | none => rw [ho] at hh; exact hh
  | some o =>
    rw [ho] at hh
    simp only at hh ⊢
    rw [wanted_pop hp (hs i o hi ho).2] at hh
    exact hh
theorem loose_wpAny {p : Nat} (h : looseIn ops p = true) : ∀ (fuel : Nat) (listed : Array Bool) (a : Act) (w : World), listed.size = ops.size → listed.getD p true = true → wpAny P .any ops.pop Q fuel listed.pop a w → wpAny P .any ops Q fuel listed a w := by
  obtain ⟨hp, hs⟩ := looseIn_spec h
  have none_ : ∀ (listed : Array Bool), listed.size = ops.size → listed.getD p true = true → (Region.ready .any ops listed = [] ↔ Region.ready .any ops.pop listed.pop = []) := fun listed hsz hl => by
    constructor
    · intro h0
      cases hr : Region.ready .any ops.pop listed.pop with
      | nil => rfl
      | cons x xs =>
        have hm : x ∈ Region.ready .any ops.pop listed.pop := by rw [hr]; exact List.mem_cons_self
        obtain ⟨_, g2, g3, _⟩ := mem_ready.1 hm
        have hx : x < p := by
          have := (Array.getElem?_eq_some_iff.1 g3).1
          simp at this
          omega
        have := (loose_ready h hsz hx).2 hm
        rw [h0] at this; cases this
    · intro h0
      cases hr : Region.ready .any ops listed with
      | nil => rfl
      | cons x xs =>
        have hm : x ∈ Region.ready .any ops listed := by rw [hr]; exact List.mem_cons_self
        obtain ⟨g1, g2, g3, _⟩ := mem_ready.1 hm
        have hx : x < p := by
          have := (Array.getElem?_eq_some_iff.1 g3).1
          rcases Nat.lt_or_ge x p with h1 | h1
          · exact h1
          · have : x = p := by omega
            subst this
            rw [hl] at g1; cases g1
        have := (loose_ready h hsz hx).1 hm
        rw [h0] at this; cases this
  intro fuel
  induction fuel with
  | zero => intro listed a w hsz hl H; exact ⟨(none_ listed hsz hl).2 H.1, H.2⟩
  | succ fuel ih =>
    intro listed a w hsz hl H
    refine ⟨fun hr => H.1 ((none_ listed hsz hl).1 hr), fun i hi => ?_⟩
    obtain ⟨h1, o, h2, _⟩ := mem_ready.1 hi
    have hx : i < p := by
      have := (Array.getElem?_eq_some_iff.1 h2).1
      rcases Nat.lt_or_ge i p with h3 | h3
      · exact h3
      · have : i = p := by omega
        subst this
        rw [hl] at h1; cases h1
    refine wpOp_mono (fun a' w' h5 => ?_) (loose_wpOp h hx (H.2 i ((loose_ready h hsz hx).1 hi)))
    refine ih (listed.setIfInBounds i true) a' w' (by simpa using hsz) ?_ ?_
    · rw [getD_set_ne true (show ¬ i = p by omega)]; exact hl
    · rw [pop_set (show p + 1 = listed.size by omega) hx]; exact h5
/-- **the last operation, of which nobody hears, and that hears of nobody (a counter's beginning), ahead of all others** -/
theorem wp_region_first {id : Nat} {ls : List Oper} {a : Act} {w : World} (p : Nat) (v : Value) (d : Option Tmp) (hm : P.follows .mixedOrders = true) (hs : Region.noSelect ls.toArray = true) (h : looseIn ls.toArray p = true)
    (hf : Region.free .any ls.toArray (Array.replicate ls.toArray.size false) p = true) (hr : (Region.ready .any ls.toArray (Array.replicate ls.toArray.size false)).contains p = true)
    (hQ : ∀ c a w, Q (.panic c) (a.put d v) w → Q (.panic c) a w) (ho : ∃ o, ls.toArray[p]? = some o ∧ o.dst = d ∧ Yields P ls.toArray o v a)
    (hK : wpAny P .any (ls.dropLast).toArray Q (ls.dropLast).toArray.size (Array.replicate (ls.dropLast).toArray.size false) (a.put d v) w.drew) : (Code.region id ls.toArray true).wp P Q a w := by
  obtain ⟨o, hls, rfl, hy⟩ := ho
  obtain ⟨hp, _⟩ := looseIn_spec h
  refine wp_region_any hm ?_
  have e : ls.toArray.size = (ls.dropLast).toArray.size + 1 := by simp at hp ⊢; omega
  have e3 : ls.toArray.pop = (ls.dropLast).toArray := by simp
  rw [e]
  refine wpAny_take hls hs (by rw [← e]; exact hf) (by rw [← e]; exact hr) hQ hy ?_
  refine loose_wpAny h _ _ _ _ (by simp at hp ⊢; omega) (by simp at hp ⊢; try omega) ?_
  rw [e3]
  have e2 : ((Array.replicate ((ls.dropLast).toArray.size + 1) false).setIfInBounds p true).pop = Array.replicate (ls.dropLast).toArray.size false := by
    apply Array.ext_getElem?
    intro k
    simp only [Array.getElem?_pop, Array.getElem?_setIfInBounds, Array.getElem?_replicate, Array.size_setIfInBounds, Array.size_replicate]
    simp at hp
    by_cases hk : k < ls.length - 1
    · have : p ≠ k := by omega
      simp [this, hk]
      try omega
    · simp [hk]
      try omega
  rw [e2]
  exact hK
end
end Go.Proofs.Ytljcgcllhcdleaa
