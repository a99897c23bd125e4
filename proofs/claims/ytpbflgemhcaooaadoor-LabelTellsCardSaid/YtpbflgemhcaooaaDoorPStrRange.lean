import Derived.Test.YtpbflgemhcaooaaDoorPStrMap
/- A range over a map with text keys, under way. -/
namespace Go.Proofs.YtpbflgemhcaooaaDoor
open Go.RowKit
open Go.ChangeMaps (setBlock)
open Go.Maps (Keyed)
set_option linter.unusedSimpArgs false
set_option linter.unusedVariables false
def SRangeIn (w : World) (b r : Nat) (m : SMapF) (left : List UInt8 → Bool) (cnt : Nat) : Prop := ∃ es clock since seen c0, w.heap[b]? = some (.map es clock) ∧ StrMap es clock m ∧ w.heap[r]? = some (.mapIter (some b) since seen c0) ∧ (∀ x ∈ es.toList, x.born < since) ∧ since ≤ c0 ∧ since ≤ clock ∧
  (∀ p, left p = true ↔ ∃ x ∈ es.toList, x.key = .string ⟨p.toArray⟩ ∧ seen.contains x.born = false) ∧ (leftOf es seen).size = cnt
section
variable {w w' : World} {b r : Nat} {m : SMapF} {left : List UInt8 → Bool} {cnt : Nat}
theorem SRangeIn.map (h : SRangeIn w b r m left cnt) : SMapIn w b m := by obtain ⟨es, clock, _, _, _, h1, h2, _⟩ := h; exact ⟨es, clock, h1, h2⟩
theorem SRangeIn.same (h : SRangeIn w b r m left cnt) (hb : w'.heap[b]? = w.heap[b]?) (hr : w'.heap[r]? = w.heap[r]?) : SRangeIn w' b r m left cnt := by
  obtain ⟨es, clock, since, seen, c0, h1, h2, h3, h4⟩ := h
  exact ⟨es, clock, since, seen, c0, hb.trans h1, h2, hr.trans h3, h4⟩
theorem SRangeIn.lt (h : SRangeIn w b r m left cnt) : r < w.heap.size := by obtain ⟨_, _, _, _, _, _, _, h3, _⟩ := h; exact (Array.getElem?_eq_some_iff.1 h3).1
theorem SRangeIn.ne (h : SRangeIn w b r m left cnt) : r ≠ b := by
  obtain ⟨_, _, _, _, _, h1, _, h3, _⟩ := h
  intro e
  rw [e, h1] at h3
  cases h3
theorem SMapIn.range (h : SMapIn w b m) {T e : TypeId} (ht : Tryd.prog.underlying T = some (.map 9 e)) :
    ∃ w' cnt, (Go.Instr.range T (.map (some b))).run Tryd.prog w = .ok (.pointer (some ⟨w.heap.size, 0, none⟩)) w' ∧ SRangeIn w' b w.heap.size m (fun p => (m p).isSome) cnt ∧ Below w.heap.size w w' ∧ w'.heap.size = w.heap.size + 1 := by
  have hlt := h.lt
  obtain ⟨es, clock, hb, F⟩ := h
  refine ⟨w.alloc (.mapIter (some b) clock #[] clock), _, run_range_map w T _ e b es clock ht hb, ⟨es, clock, clock, #[], clock, ?_, F, heap_alloc_new w _, ((Go.MapKept.stamped_iff es clock).1 F.stamped).1, Nat.le_refl _, Nat.le_refl _, fun p => ?_, rfl⟩, (Below.refl _ _).alloc (Nat.le_refl _) _, by simp⟩
  · exact (Below.block ((Below.refl w.heap.size w).alloc (Nat.le_refl _) _) b hlt).trans hb
  · rw [Option.isSome_iff_exists]
    refine ⟨fun ⟨v, hv⟩ => ?_, fun ⟨x, hx, hk, _⟩ => ⟨_, F.at_ hx hk⟩⟩
    obtain ⟨x, hx, hk, _⟩ := (F.reads p v).1 hv
    exact ⟨x, hx, hk, by simp⟩
theorem SRangeIn.next (h : SRangeIn w b r m left cnt) (ty : TypeId) :
    (cnt = 0 ∧ (∀ p, left p = false) ∧ (Go.Instr.next (.pointer (some ⟨r, 0, none⟩)) false ty).run Tryd.prog w = .ok (.tuple #[.bool false]) w) ∨
    ∃ p v w' cnt', InS p ∧ left p = true ∧ m p = some v ∧ (Go.Instr.next (.pointer (some ⟨r, 0, none⟩)) false ty).run Tryd.prog w = .ok (.tuple #[.bool true, .string ⟨p.toArray⟩, v]) w' ∧ SRangeIn w' b r m (fun q => left q && !decide (q = p)) cnt' ∧ cnt' < cnt ∧ w.grownBy w' (some r) ∧ w'.heap.size = w.heap.size ∧
      (Go.Instr.entry (.pointer (some ⟨r, 0, none⟩))).run Tryd.prog w' = .ok (.tuple #[.string ⟨p.toArray⟩, v]) w' := by
  have hne := h.ne
  obtain ⟨es, clock, since, seen, c0, hb, F, hr, hold, hsc, hsk, hl, rfl⟩ := h
  have hst := (Go.MapKept.stamped_iff es clock).1 F.stamped
  rcases run_next_at (P := Tryd.prog) w ty r b since c0 seen es clock hr hb hold hsc with ⟨h0, hrun⟩ | ⟨e, he, w1, hal, hrun⟩
  · refine Or.inl ⟨h0, fun p => ?_, hrun⟩
    cases hp : left p with
    | false => rfl
    | true =>
      obtain ⟨x, hx, _, hs⟩ := (hl p).1 hp
      rw [all_seen es seen h0 x hx] at hs
      cases hs
  · obtain ⟨hem, hes⟩ := mem_left he
    obtain ⟨p, hp, h64⟩ := F.keys e hem
    have hr1 : w1.heap[r]? = some (.mapIter (some b) since seen c0) := by rcases hal with rfl | rfl <;> exact hr
    have hb1 : w1.heap[b]? = some (.map es clock) := by rcases hal with rfl | rfl <;> exact hb
    have hset := Go.MapKept.heap_set (o' := .mapIter (some b) since (seen.push e.born) clock) hr1
    have hb' : (setBlock w1 r (.mapIter (some b) since (seen.push e.born) clock)).heap[b]? = some (.map es clock) := (hset.2 b (fun e1 => hne e1.symm)).trans hb1
    have hen := run_entry_at (P := Tryd.prog) _ r b since seen es clock e hset.1 hb' hem hst.2.1
    rw [hp] at hrun hen
    refine Or.inr ⟨p, e.val, _, _, h64, (hl p).2 ⟨e, hem, hp, hes⟩, F.at_ hem hp, hrun, ⟨es, clock, since, seen.push e.born, clock, hb', F, hset.1, hold, hsk, hsk, fun q => ?_, rfl⟩, left_shrinks es seen e he, ?_, ?_, hen⟩
    · rw [Bool.and_eq_true, Bool.not_eq_true', decide_eq_false_iff_not, hl]
      refine ⟨fun ⟨⟨x, hx, hk, hs⟩, hq⟩ => ⟨x, hx, hk, ?_⟩, fun ⟨x, hx, hk, hs⟩ => ⟨⟨x, hx, hk, ?_⟩, ?_⟩⟩
      · rw [contains_push, hs, Bool.false_or, beq_eq_false_iff_ne]
        intro hbe
        have := born_inj hst.2.1 hx hem hbe
        rw [this, hp] at hk
        replace hk := str_inj hk
        exact hq hk.symm
      · rw [contains_push, Bool.or_eq_false_iff] at hs
        exact hs.1
      · intro hq
        subst hq
        have := entry_eq_of_key hst.2.2 hx hem (hk.trans hp.symm)
        rw [contains_push, this] at hs
        simp at hs
    · rcases hal with rfl | rfl <;> exact ⟨rfl, rfl, rfl, by simp [setBlock], fun i _ hi => hset.2 i (fun e1 => hi (by rw [e1]))⟩
    · rcases hal with rfl | rfl <;> simp [setBlock]
end
/-! ### at the operation, for the walk -/
section
variable {ops : Array Oper} {rest : List Oper} {o : Oper} {a : Act} {w : World} {Q : Exit → Act → World → Prop}
theorem wpList_rangeS_at (hg : o.guard = none) (x : Operand) (T e : TypeId) (ho : o.op = Op.range T x) (ht : Tryd.prog.underlying T = some (.map 9 e)) {b : Nat} {m : SMapF} (hx : a.eval x = .map (some b)) (hm : SMapIn w b m)
    (hK : ∀ w' cnt, SRangeIn w' b w.heap.size m (fun p => (m p).isSome) cnt → Below w.heap.size w w' → w'.heap.size = w.heap.size + 1 → wpList Tryd.prog ops Q rest (a.put o.dst (.pointer (some ⟨w.heap.size, 0, none⟩))) w') : wpList Tryd.prog ops Q (o :: rest) a w := by
  refine wpList_plain hg fun K' hK' => ?_
  obtain ⟨w', cnt, hr, h1, h2, h3⟩ := hm.range ht
  unfold Oper.wp
  simp [execOp, ho, hx, hr, Result.andThen]
  exact hK' _ _ (hK w' cnt h1 h2 h3)
theorem wpList_nextS_at (hg : o.guard = none) (x : Operand) (ho : o.op = Op.next x false) {b r : Nat} {m : SMapF} {left : List UInt8 → Bool} {cnt : Nat} (hx : a.eval x = .pointer (some ⟨r, 0, none⟩)) (hm : SRangeIn w b r m left cnt)
    (hDone : cnt = 0 → (∀ p, left p = false) → wpList Tryd.prog ops Q rest (a.put o.dst (.tuple #[.bool false])) w)
    (hMore : ∀ p v w' cnt', InS p → left p = true → m p = some v → SRangeIn w' b r m (fun q => left q && !decide (q = p)) cnt' → cnt' < cnt → w.grownBy w' (some r) → w'.heap.size = w.heap.size → (Go.Instr.entry (.pointer (some ⟨r, 0, none⟩))).run Tryd.prog w' = .ok (.tuple #[.string ⟨p.toArray⟩, v]) w' →
      wpList Tryd.prog ops Q rest (a.put o.dst (.tuple #[.bool true, .string ⟨p.toArray⟩, v])) w') : wpList Tryd.prog ops Q (o :: rest) a w := by
  refine wpList_plain hg fun K' hK' => ?_
  unfold Oper.wp
  rcases hm.next o.type with ⟨h0, hl, hrun⟩ | ⟨p, v, w', cnt', h1, h2, h3, hrun, h4, h5, h6, h7, h8⟩
  · simp [execOp, ho, hx, hrun, Result.andThen]
    exact hK' _ _ (hDone h0 hl)
  · simp [execOp, ho, hx, hrun, Result.andThen]
    exact hK' _ _ (hMore p v w' cnt' h1 h2 h3 h4 h5 h6 h7 h8)
end
end Go.Proofs.YtpbflgemhcaooaaDoor
