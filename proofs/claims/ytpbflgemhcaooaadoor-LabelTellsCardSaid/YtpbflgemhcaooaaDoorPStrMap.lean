import Derived.Test.YtpbflgemhcaooaaDoorLb8
import Derived.Test.YtpbflgemhcaooaaDoorProg
import Derived.Maps.RangeWalk
import Derived.Maps.OwnSet
import Derived.StringKeys
/- Maps with text keys in memory: what a block's map reads as, as a function of the key; looked up, set, deleted from, cleared. -/
namespace Go.Proofs.YtpbflgemhcaooaaDoor
open Go.RowKit
open Go.ChangeMaps (setBlock)
open Go.Maps (Keyed)
set_option linter.unusedSimpArgs false
set_option linter.unusedVariables false
def InS (p : List UInt8) : Prop := p.length ≤ 281474976710656
theorem str_inj {p q : List UInt8} (h : Value.string ⟨p.toArray⟩ = .string ⟨q.toArray⟩) : p = q := by
  injection h with h
  injection h with h
  simpa using h
theorem strK : Keyed Tryd.prog 9 := Go.Maps.string_keyed Tryd.underlying9
theorem key_str {p : List UInt8} (h : InS p) : keyOf Tryd.prog 9 (.string ⟨p.toArray⟩) = some (.string p) := WideMaps.keyOf_string_mk Tryd.underlying9 (by show p.toArray.size ≤ _; unfold InS at h; simp [maxLen]; omega)
abbrev SMapF := List UInt8 → Option Value
def smapPut (m : SMapF) (p : List UInt8) (v : Option Value) : SMapF := fun q => if q = p then v else m q
structure StrMap (es : Array MapEntry) (clock : Nat) (m : SMapF) : Prop where
  keys : ∀ x ∈ es.toList, ∃ p, x.key = .string ⟨p.toArray⟩ ∧ InS p
  stamped : Go.MapKept.Stamped es clock
  reads : ∀ p v, m p = some v ↔ ∃ x ∈ es.toList, x.key = .string ⟨p.toArray⟩ ∧ x.val = v
/-- the block b is a map that reads as m -/
def SMapIn (w : World) (b : Nat) (m : SMapF) : Prop := ∃ es clock, w.heap[b]? = some (.map es clock) ∧ StrMap es clock m
section
variable {es : Array MapEntry} {clock : Nat} {m : SMapF} {w w' : World} {b : Nat}
theorem StrMap.keyed (h : StrMap es clock m) : ∀ e ∈ es.toList, ∃ l, keyOf Tryd.prog 9 e.key = some l := fun e he => by
  obtain ⟨p, hp, h64⟩ := h.keys e he
  exact ⟨_, by rw [hp]; exact key_str h64⟩
theorem StrMap.pair (h : StrMap es clock m) : es.toList.Pairwise (fun x y => x.key ≠ y.key) := ((Go.MapKept.stamped_iff es clock).1 h.stamped).2.2
theorem StrMap.nil (clock : Nat) : StrMap #[] clock (fun _ => none) := ⟨fun x hx => by simp at hx, (Go.MapKept.stamped_iff _ _).2 ⟨fun x hx => by simp at hx, by simp, by simp⟩, fun p v => by simp⟩
theorem StrMap.at_ (h : StrMap es clock m) {x : MapEntry} {p : List UInt8} (hx : x ∈ es.toList) (hk : x.key = .string ⟨p.toArray⟩) : m p = some x.val := (h.reads p x.val).2 ⟨x, hx, hk, rfl⟩
theorem StrMap.none_ (h : StrMap es clock m) {p : List UInt8} (hn : ∀ x ∈ es.toList, x.key ≠ .string ⟨p.toArray⟩) : m p = none := by
  cases hm : m p with
  | none => rfl
  | some v => obtain ⟨x, hx, hk, _⟩ := (h.reads p v).1 hm; exact absurd hk (hn x hx)
theorem SMapIn.lt (h : SMapIn w b m) : b < w.heap.size := by obtain ⟨es, c, hb, _⟩ := h; exact (Array.getElem?_eq_some_iff.1 hb).1
theorem SMapIn.on (h : SMapIn w b m) (hb : Below w.heap.size w w') : SMapIn w' b m := by
  have hlt := h.lt
  obtain ⟨es, c, h1, h2⟩ := h
  exact ⟨es, c, (hb.block b hlt).trans h1, h2⟩
theorem SMapIn.same (h : SMapIn w b m) (hs : w'.heap[b]? = w.heap[b]?) : SMapIn w' b m := by
  obtain ⟨es, c, h1, h2⟩ := h
  exact ⟨es, c, hs.trans h1, h2⟩
theorem SMapIn.made (w : World) : SMapIn (w.alloc (.map #[] 0)) w.heap.size (fun _ => none) := ⟨#[], 0, heap_alloc_new w _, StrMap.nil 0⟩
/-- the world but for a map's block -/
def STurned (w w' : World) (b : Nat) : Prop := ∃ es clock es' clock', w.heap[b]? = some (.map es clock) ∧ w' = setBlock w b (.map es' clock')
theorem STurned.size (h : STurned w w' b) : w'.heap.size = w.heap.size := by obtain ⟨_, _, _, _, _, rfl⟩ := h; simp [setBlock]
theorem STurned.other (h : STurned w w' b) {c : Nat} (hc : c ≠ b) : w'.heap[c]? = w.heap[c]? := by
  obtain ⟨es, c1, es', c2, hb, rfl⟩ := h
  unfold setBlock
  simp only
  rw [Array.getElem?_setIfInBounds_ne (by omega)]
theorem STurned.grown (h : STurned w w' b) : w.grownBy w' (some b) := by
  have hs := h.size
  have ho := fun c hc => h.other (c := c) hc
  obtain ⟨es, c1, es', c2, hb, rfl⟩ := h
  exact ⟨rfl, rfl, rfl, by rw [hs]; exact Nat.le_refl _, fun i _ hi => ho i (fun e => hi (by rw [e]))⟩
theorem STurned.below (h : STurned w w' b) {B : Nat} (hB : B ≤ b) (hw : B ≤ w.heap.size) : Below B w w' := (Below.refl B w).grown h.grown hw (fun q hq => by injection hq with hq; omega)
theorem STurned.cell (h : STurned w w' b) {c o : Nat} (hc : c ≠ b) : w'.cell? ⟨c, o, none⟩ = w.cell? ⟨c, o, none⟩ := by
  unfold World.cell?
  dsimp only
  rw [h.other hc]
theorem STurned.frozen (h : STurned w w' b) {c o : Nat} (hc : c ≠ b) : w'.frozen? ⟨c, o, none⟩ = w.frozen? ⟨c, o, none⟩ := by
  unfold World.frozen?
  dsimp only
  rw [h.other hc]
theorem set_atS (w : World) (hb : b < w.heap.size) (o : Obj) : (setBlock w b o).heap[b]? = some o := by
  unfold setBlock
  simp [Array.getElem?_setIfInBounds_self_of_lt hb]
/-- looked up -/
theorem SMapIn.lookup (h : SMapIn w b m) {T e : TypeId} {z : Value} (ht : Tryd.prog.underlying T = some (.map 9 e)) (hz : (zeroValue e).run Tryd.prog w = .ok z w) {p : List UInt8} (hp : InS p) (ok : Bool) :
    (Go.Instr.lookup T (.map (some b)) (.string ⟨p.toArray⟩) ok).run Tryd.prog w = .ok (if ok then .tuple #[(m p).getD z, .bool (m p).isSome] else (m p).getD z) w := by
  obtain ⟨es, clock, hb, F⟩ := h
  rcases strK.find w (key_str hp) es.toList F.keyed with ⟨h1, h2⟩ | ⟨j, e0, h1, h2, h3⟩
  · rw [F.none_ h2]
    cases ok <;> simp [Go.Instr.lookup, run_underlying ht, Go.MapKept.run_getObj_map hb, strK.check w _ (key_str hp), h1, hz, Result.andThen]
  · rw [F.at_ (List.mem_of_getElem? h2) h3]
    cases ok <;> simp [Go.Instr.lookup, run_underlying ht, Go.MapKept.run_getObj_map hb, strK.check w _ (key_str hp), h1, Result.andThen]
/-- set -/
theorem StrMap.push (F : StrMap es clock m) {p : List UInt8} (hp : InS p) (hn : ∀ x ∈ es.toList, x.key ≠ .string ⟨p.toArray⟩) (v : Value) : StrMap (es.push ⟨.string ⟨p.toArray⟩, v, clock⟩) (clock + 1) (smapPut m p (some v)) := by
  refine ⟨fun x hx => ?_, Go.MapKept.stamped_push F.stamped hn, fun q u => ?_⟩
  · simp only [Array.toList_push, List.mem_append, List.mem_singleton] at hx
    rcases hx with hx | rfl
    · exact F.keys x hx
    · exact ⟨p, rfl, hp⟩
  · unfold smapPut
    simp only [Array.toList_push, List.mem_append, List.mem_singleton]
    by_cases hq : q = p
    · subst hq
      rw [if_pos rfl]
      refine ⟨fun h => ?_, fun ⟨x, hx, hk, hv⟩ => ?_⟩
      · injection h with h
        exact ⟨_, .inr rfl, rfl, h⟩
      · rcases hx with hx | rfl
        · exact absurd hk (hn x hx)
        · exact congrArg some hv
    · rw [if_neg hq, F.reads]
      refine ⟨fun ⟨x, hx, hk, hv⟩ => ⟨x, .inl hx, hk, hv⟩, fun ⟨x, hx, hk, hv⟩ => ?_⟩
      rcases hx with hx | rfl
      · exact ⟨x, hx, hk, hv⟩
      · replace hk := str_inj hk
        exact absurd hk.symm hq
theorem StrMap.set (F : StrMap es clock m) {p : List UInt8} {j : Nat} {e0 : MapEntry} (h2 : es.toList[j]? = some e0) (h3 : e0.key = .string ⟨p.toArray⟩) (hp : InS p) (v : Value) : StrMap (es.modify j (fun e => ⟨.string ⟨p.toArray⟩, v, e.born⟩)) clock (smapPut m p (some v)) := by
  have hj : es[j]? = some e0 := by simpa using h2
  have hl : (es.modify j (fun e => (⟨.string ⟨p.toArray⟩, v, e.born⟩ : MapEntry))).toList = es.toList.set j ⟨.string ⟨p.toArray⟩, v, e0.born⟩ := by
    rw [Array.toList_modify]
    exact Go.ChangeMaps.modify_eq_set _ _ _ _ h2
  have hs := Go.MapKept.stamped_modify F.stamped j (fun e => ⟨.string ⟨p.toArray⟩, v, e.born⟩) (fun _ _ => rfl) (fun e' _ he' => by rw [hj] at he'; injection he' with he'; rw [← he', h3])
  have hpw := ((Go.MapKept.stamped_iff _ _).1 hs).2.2
  have hin : (⟨.string ⟨p.toArray⟩, v, e0.born⟩ : MapEntry) ∈ (es.modify j (fun e => (⟨.string ⟨p.toArray⟩, v, e.born⟩ : MapEntry))).toList := by
    rw [hl]
    exact List.mem_set (List.getElem?_eq_some_iff.1 h2).1 _
  refine ⟨fun x hx => ?_, hs, fun q u => ?_⟩
  · rw [hl] at hx
    rcases List.mem_or_eq_of_mem_set hx with hx | rfl
    · exact F.keys x hx
    · exact ⟨p, rfl, hp⟩
  · unfold smapPut
    by_cases hq : q = p
    · subst hq
      rw [if_pos rfl]
      refine ⟨fun h => ?_, fun ⟨x, hx, hk, hv⟩ => ?_⟩
      · injection h with h
        exact ⟨_, hin, rfl, h⟩
      · have := Go.entry_eq_of_key hpw hx hin hk
        rw [this] at hv
        exact congrArg some hv
    · rw [if_neg hq, F.reads]
      refine ⟨fun ⟨x, hx, hk, hv⟩ => ?_, fun ⟨x, hx, hk, hv⟩ => ?_⟩
      · obtain ⟨i, hi⟩ := List.getElem?_of_mem hx
        have hne : j ≠ i := fun e => by
          subst e
          rw [h2] at hi
          injection hi with hi
          rw [← hi, h3] at hk
          replace hk := str_inj hk
          exact hq hk.symm
        refine ⟨x, ?_, hk, hv⟩
        rw [hl]
        exact List.mem_of_getElem? (i := i) (by rw [List.getElem?_set_ne hne]; exact hi)
      · rw [hl] at hx
        rcases List.mem_or_eq_of_mem_set hx with hx | rfl
        · exact ⟨x, hx, hk, hv⟩
        · replace hk := str_inj hk
          exact absurd hk.symm hq
theorem SMapIn.update (h : SMapIn w b m) {T e : TypeId} (ht : Tryd.prog.underlying T = some (.map 9 e)) {p : List UInt8} (hp : InS p) (v : Value) :
    ∃ w', (Go.Instr.mapUpdate T (.map (some b)) (.string ⟨p.toArray⟩) v).run Tryd.prog w = .ok () w' ∧ SMapIn w' b (smapPut m p (some v)) ∧ STurned w w' b := by
  have hlt := h.lt
  obtain ⟨es, clock, hb, F⟩ := h
  rcases strK.find w (key_str hp) es.toList F.keyed with ⟨h1, h2⟩ | ⟨j, e0, h1, h2, h3⟩
  · refine ⟨setBlock w b (.map (es.push ⟨.string ⟨p.toArray⟩, v, clock⟩) (clock + 1)), ?_, ⟨_, _, set_atS w hlt _, F.push hp h2 v⟩, ⟨es, clock, _, _, hb, rfl⟩⟩
    simp [Go.Instr.mapUpdate, run_underlying ht, Go.MapKept.run_getObj_map hb, strK.check w false (key_str hp), h1, Go.MapKept.run_setObj_map _ hb, Result.andThen, setBlock]
  · have hj : es[j]? = some e0 := by simpa using h2
    refine ⟨setBlock w b (.map (es.modify j (fun e => ⟨.string ⟨p.toArray⟩, v, e.born⟩)) clock), ?_, ⟨_, _, set_atS w hlt _, F.set h2 h3 hp v⟩, ⟨es, clock, _, _, hb, rfl⟩⟩
    simp [Go.Instr.mapUpdate, run_underlying ht, Go.MapKept.run_getObj_map hb, strK.check w false (key_str hp), h1, hj, h3, strK.stays w (key_str hp), Go.MapKept.run_setObj_map _ hb, Result.andThen, setBlock]
/-- deleted from -/
theorem StrMap.drop (F : StrMap es clock m) {p : List UInt8} {j : Nat} {e0 : MapEntry} (h2 : es.toList[j]? = some e0) (h3 : e0.key = .string ⟨p.toArray⟩) : StrMap (es.eraseIdxIfInBounds j) clock (smapPut m p none) := by
  have hjs : j < es.size := by have := (List.getElem?_eq_some_iff.1 h2).1; simpa using this
  have hl : (es.eraseIdxIfInBounds j).toList = es.toList.eraseIdx j := by
    unfold Array.eraseIdxIfInBounds
    rw [dif_pos hjs]
    simp
  refine ⟨fun x hx => ?_, Go.MapKept.stamped_erase F.stamped j, fun q u => ?_⟩
  · rw [hl] at hx
    exact F.keys x ((List.eraseIdx_sublist _ _).subset hx)
  · unfold smapPut
    rw [hl]
    by_cases hq : q = p
    · subst hq
      rw [if_pos rfl]
      refine ⟨(fun h => by cases h), fun ⟨x, hx, hk, _⟩ => ?_⟩
      exfalso
      obtain ⟨i, hne, hi⟩ := List.mem_eraseIdx_iff_getElem?.1 hx
      have hpw := F.pair
      rw [List.pairwise_iff_getElem] at hpw
      obtain ⟨il, ie⟩ := List.getElem?_eq_some_iff.1 hi
      obtain ⟨jl, je⟩ := List.getElem?_eq_some_iff.1 h2
      rcases Nat.lt_or_ge i j with h | h
      · exact hpw i j il jl h (by rw [ie, je, hk, h3])
      · exact hpw j i jl il (by omega) (by rw [ie, je, hk, h3])
    · rw [if_neg hq, F.reads]
      refine ⟨fun ⟨x, hx, hk, hv⟩ => ?_, fun ⟨x, hx, hk, hv⟩ => ⟨x, (List.eraseIdx_sublist _ _).subset hx, hk, hv⟩⟩
      obtain ⟨i, hi⟩ := List.getElem?_of_mem hx
      refine ⟨x, List.mem_eraseIdx_iff_getElem?.2 ⟨i, fun e => ?_, hi⟩, hk, hv⟩
      subst e
      rw [h2] at hi
      injection hi with hi
      rw [← hi, h3] at hk
      replace hk := str_inj hk
      exact hq hk.symm
theorem SMapIn.drop (h : SMapIn w b m) {T e : TypeId} (ht : Tryd.prog.underlying T = some (.map 9 e)) {p : List UInt8} (hp : InS p) (ty : TypeId) :
    ∃ w', (Builtin.delete_ #[T, 9] ty #[.map (some b), .string ⟨p.toArray⟩]).run Tryd.prog w = .ok (.tuple #[]) w' ∧ SMapIn w' b (smapPut m p none) ∧ STurned w w' b := by
  have hlt := h.lt
  obtain ⟨es, clock, hb, F⟩ := h
  rcases strK.find w (key_str hp) es.toList F.keyed with ⟨h1, h2⟩ | ⟨j, e0, h1, h2, h3⟩
  · refine ⟨setBlock w b (.map es clock), ?_, ⟨_, _, set_atS w hlt _, ?_⟩, ⟨es, clock, _, _, hb, rfl⟩⟩
    · simp [Builtin.delete_, run_underlying ht, Go.MapKept.run_getObj_map hb, strK.check w _ (key_str hp), h1, Go.MapKept.run_setObj_map _ hb, Result.andThen, setBlock]
    · have : smapPut m p none = m := by
        funext q
        unfold smapPut
        by_cases hq : q = p
        · rw [if_pos hq, hq, F.none_ h2]
        · rw [if_neg hq]
      rw [this]
      exact F
  · refine ⟨setBlock w b (.map (es.eraseIdxIfInBounds j) clock), ?_, ⟨_, _, set_atS w hlt _, F.drop h2 h3⟩, ⟨es, clock, _, _, hb, rfl⟩⟩
    simp [Builtin.delete_, run_underlying ht, Go.MapKept.run_getObj_map hb, strK.check w _ (key_str hp), h1, Go.MapKept.run_setObj_map _ hb, Result.andThen, setBlock]
/-- cleared -/
theorem SMapIn.clear (h : SMapIn w b m) {T e : TypeId} (ht : Tryd.prog.underlying T = some (.map 9 e)) (ty : TypeId) :
    ∃ w', (Builtin.clear_ #[T] ty #[.map (some b)]).run Tryd.prog w = .ok (.tuple #[]) w' ∧ SMapIn w' b (fun _ => none) ∧ STurned w w' b := by
  have hlt := h.lt
  obtain ⟨es, clock, hb, F⟩ := h
  refine ⟨setBlock w b (.map #[] clock), ?_, ⟨_, _, set_atS w hlt _, StrMap.nil clock⟩, ⟨es, clock, _, _, hb, rfl⟩⟩
  simp [Builtin.clear_, run_underlying ht, Go.MapKept.run_getObj_map hb, Go.MapKept.run_setObj_map _ hb, Result.andThen, setBlock]
end
/-! ### at the operation, for the walk -/
section
variable {ops : Array Oper} {rest : List Oper} {o : Oper} {a : Act} {w : World} {Q : Exit → Act → World → Prop}
theorem wpList_lookupS_at (hg : o.guard = none) (x y : Operand) (T : TypeId) (ok : Bool) (ho : o.op = Op.lookup T x y ok) {b : Nat} {p : List UInt8} {v : Value} (hx : a.eval x = .map (some b)) (hy : a.eval y = .string ⟨p.toArray⟩)
    (hr : (Go.Instr.lookup T (.map (some b)) (.string ⟨p.toArray⟩) ok).run Tryd.prog w = .ok v w) (hK : wpList Tryd.prog ops Q rest (a.put o.dst v) w) : wpList Tryd.prog ops Q (o :: rest) a w := by
  refine wpList_plain hg fun K' hK' => ?_
  unfold Oper.wp
  simp [execOp, ho, hx, hy, hr, Result.andThen]
  exact hK' _ _ hK
theorem wpList_lookupS_atg (hw : Region.wanted o (yielded ops a.tmps) = true) (x y : Operand) (T : TypeId) (ok : Bool) (ho : o.op = Op.lookup T x y ok) {b : Nat} {p : List UInt8} {v : Value} (hx : a.eval x = .map (some b)) (hy : a.eval y = .string ⟨p.toArray⟩)
    (hr : (Go.Instr.lookup T (.map (some b)) (.string ⟨p.toArray⟩) ok).run Tryd.prog w = .ok v w) (hK : wpList Tryd.prog ops Q rest (a.put o.dst v) w) : wpList Tryd.prog ops Q (o :: rest) a w := by
  refine wpList_step fun K' hK' => ?_
  rw [if_pos hw]
  unfold Oper.wp
  simp [execOp, ho, hx, hy, hr, Result.andThen]
  exact hK' _ _ hK
theorem wpList_updateS_at (hg : o.guard = none) (x y z : Operand) (T e : TypeId) (ho : o.op = Op.mapUpdate T x y z) (ht : Tryd.prog.underlying T = some (.map 9 e)) {b : Nat} {p : List UInt8} {v : Value} {m : SMapF} (hx : a.eval x = .map (some b)) (hy : a.eval y = .string ⟨p.toArray⟩) (hz : a.eval z = v)
    (hm : SMapIn w b m) (hp : InS p) (hK : ∀ w', SMapIn w' b (smapPut m p (some v)) → STurned w w' b → wpList Tryd.prog ops Q rest (a.put o.dst undef) w') : wpList Tryd.prog ops Q (o :: rest) a w := by
  refine wpList_plain hg fun K' hK' => ?_
  obtain ⟨w', hr, h1, h2⟩ := hm.update ht hp v
  unfold Oper.wp
  simp [execOp, ho, hx, hy, hz, hr, Result.andThen]
  exact hK' _ _ (hK w' h1 h2)
theorem wpList_deleteS_at (hg : o.guard = none) (x y : Operand) (T e : TypeId) (ho : o.op = Op.call { callee := Callee.builtin Builtin.delete, args := #[x, y], argTypes := #[T, 9] }) (ht : Tryd.prog.underlying T = some (.map 9 e)) {b : Nat} {p : List UInt8} {m : SMapF} (hx : a.eval x = .map (some b)) (hy : a.eval y = .string ⟨p.toArray⟩)
    (hm : SMapIn w b m) (hp : InS p) (hK : ∀ w', SMapIn w' b (smapPut m p none) → STurned w w' b → wpList Tryd.prog ops Q rest (a.put o.dst (.tuple #[])) w') : wpList Tryd.prog ops Q (o :: rest) a w := by
  refine wpList_plain hg fun K' hK' => ?_
  obtain ⟨w', hr, h1, h2⟩ := hm.drop ht hp o.type
  unfold Oper.wp
  simp [execOp, ho, resolve, invoke, builtin, hx, hy, hr, Result.andThen]
  exact hK' _ _ (hK w' h1 h2)
theorem wpList_clearS_at (hg : o.guard = none) (x : Operand) (T e : TypeId) (ho : o.op = Op.call { callee := Callee.builtin Builtin.clear, args := #[x], argTypes := #[T] }) (ht : Tryd.prog.underlying T = some (.map 9 e)) {b : Nat} {m : SMapF} (hx : a.eval x = .map (some b))
    (hm : SMapIn w b m) (hK : ∀ w', SMapIn w' b (fun _ => none) → STurned w w' b → wpList Tryd.prog ops Q rest (a.put o.dst (.tuple #[])) w') : wpList Tryd.prog ops Q (o :: rest) a w := by
  refine wpList_plain hg fun K' hK' => ?_
  obtain ⟨w', hr, h1, h2⟩ := hm.clear ht o.type
  unfold Oper.wp
  simp [execOp, ho, resolve, invoke, builtin, hx, hr, Result.andThen]
  exact hK' _ _ (hK w' h1 h2)
end
end Go.Proofs.YtpbflgemhcaooaaDoor
