import Derived.Test.YtljcgcllhcdleaaFo1
import Derived.Maps.AppendAt
import Derived.Laws.OwnMore
import Derived.Deep.AppendLies
import Derived.OwnWalk
import Derived.Test.YtljcgcllhcdleaaProg
import Derived.Maps.RangeWalk
import Derived.Maps.OwnSet
import Derived.Shelf.SlMaps.Clone
import Derived.WalkKit
import Derived.Lib.Hide
import Derived.WalkSpells
import Derived.WalkLawsBesides
import Derived.Handy
import Derived.BigQuiet
import Derived.Deep.QuietTactic
/- append onto a row of the call's own; the source reads as a list. -/
namespace Go.Proofs.Ytljcgcllhcdleaa
open Go.RowKit
section
variable {P : Program} {w : World} {B size : Nat}
theorem SL.of_own {base : Nat} {e : TypeId} {v : Value} {n : Nat} {xs : List Value} (h : w.ownsRow base e size v n xs) : SL w w.heap.size size v n xs := by
  refine ⟨h.1, ?_⟩
  rcases h.2 with ⟨rfl, rfl⟩ | ⟨g, cap, cur, rfl, _, hw, hnc, hm, hs, ht⟩
  · exact ⟨none, 0, rfl, Nat.le_refl _, by simp [maxLen], fun _ => rfl, fun hn => absurd hn (by omega)⟩
  · refine ⟨_, cap, rfl, hnc, hm, (fun he => by cases he), fun hn => ⟨g, 0, rfl, ?_, fun j u hu => ?_⟩⟩
    · rcases Nat.lt_or_ge g w.heap.size with h1 | h1
      · exact h1
      · rw [Array.getElem?_eq_none h1] at hw; cases hw
    · rw [← ht] at hu
      have hj : j < n * size := by
        rcases Nat.lt_or_ge j (n * size) with h1 | h1
        · exact h1
        · rw [List.getElem?_eq_none (by rw [List.length_take]; omega)] at hu; cases hu
      rw [List.getElem?_take_of_lt hj] at hu
      simp [World.cell?, hw]
      simpa using hu

theorem from_own {base : Nat} {e : TypeId} {v : Value} {n : Nat} {xs : List Value} (h : w.ownsRow base e size v n xs) : from_ base v := by
  rcases h.2 with ⟨rfl, rfl⟩ | ⟨g, cap, cur, rfl, hb, _⟩
  · exact from_nil _ _ _
  · exact from_some _ _ hb

theorem run_append_SL (base : Nat) (t ty e : TypeId) (i : TypeInfo) (z : Value) (bytes : Nat) (ht : P.underlying t = some (.slice e)) (hi : P.info? e = some i) (hz : i.zero = some z)
    (hsize : i.size = size) (hby : i.bytes = bytes) (hzs : z.cells.size = size) (hsz : 0 < size)
    {v : Value} {n : Nat} {xs : List Value} (hown : w.ownsRow base e size v n xs)
    {src : Value} {m : Nat} {news : List Value} (hr : SL w B size src m news) (h1 : ∀ u ∈ news, u.oneCell' = true)
    (h63 : n + m ≤ maxLen) (hbytes : (n + m) * bytes ≤ 140737488355328) (hbase : base ≤ w.heap.size) :
    ∃ v' w', (Builtin.append_ #[t, t] ty #[v, src]).run P w = .ok v' w' ∧ w'.ownsRow base e size v' (n + m) (xs ++ news) ∧ w.grownBy w' v.ownBlock ∧
      (v'.ownBlock = v.ownBlock ∨ v'.ownBlock = some w.heap.size) := by
  obtain ⟨hl, A, c, rfl, hc1, hc2, hc3, hc4⟩ := hr
  rcases A with _ | ad
  · have hm : m = 0 := by
      rcases Nat.eq_zero_or_pos m with h0 | h0
      · exact h0
      · obtain ⟨b, o, h, _⟩ := hc4 h0
        cases h
    subst hm
    have hn : news = [] := List.eq_nil_of_length_eq_zero (by simpa using hl)
    subst hn
    have hrun : (Builtin.append_ #[t, t] ty #[v, .slice none 0 c]).run P w = .ok v w := by
      rcases hown.2 with ⟨rfl, rfl⟩ | ⟨g, cap, cur, rfl, _, _, hnc, _⟩
      · simp [Builtin.append_, run_underlying ht, sizeOf, typeInfo, hi, Builtin.lenOf, Builtin.firstCells]
      · simp [Builtin.append_, run_underlying ht, sizeOf, typeInfo, hi, Builtin.lenOf, Builtin.firstCells, hnc, storeCells]
    exact ⟨v, w, hrun, by simpa using hown, World.grownBy.refl w _, .inl rfl⟩
  · have hcells : ∀ j u, news[j]? = some u → w.cell? (ad.add j) = some u := by
      intro j u hu
      rcases Nat.eq_zero_or_pos m with h0 | h0
      · subst h0
        have hn : news = [] := List.eq_nil_of_length_eq_zero (by simpa using hl)
        subst hn
        simp at hu
      · obtain ⟨b, o, h, _, hc⟩ := hc4 h0
        injection h with h
        subst h
        have := hc j u hu
        unfold Addr.add
        split
        · rename_i hj
          subst hj
          exact this
        · exact this
    obtain ⟨v', w', hrun, h2, h3, _, h5⟩ := run_append_own_at (P := P) w base t ty e i z size bytes ht hi hz hsize hby hzs hsz v n xs hown ad m c news hl hcells h1 h63 hbytes hbase
    exact ⟨v', w', hrun, h2, h3, h5⟩

theorem wp_append_SL {o : Oper} {a : Act} {K : Act → World → Prop} {Q : Exit → Act → World → Prop} (s x : Operand) (t : TypeId)
    (ho : o.op = .call { callee := .builtin .append, args := #[s, x], argTypes := #[t, t] })
    (base : Nat) (e : TypeId) (i : TypeInfo) (z : Value) (bytes : Nat) (ht : P.underlying t = some (.slice e)) (hi : P.info? e = some i) (hz : i.zero = some z)
    (hsize : i.size = size) (hby : i.bytes = bytes) (hzs : z.cells.size = size) (hsz : 0 < size)
    {v : Value} {n : Nat} {xs : List Value} (hs : a.eval s = v) (hown : w.ownsRow base e size v n xs)
    {src : Value} {m : Nat} {news : List Value} (hx : a.eval x = src) (hr : SL w B size src m news) (h1 : ∀ u ∈ news, u.oneCell' = true)
    (h63 : n + m ≤ maxLen) (hbytes : (n + m) * bytes ≤ 140737488355328) (hbase : base ≤ w.heap.size)
    (h : ∀ v' w', w'.ownsRow base e size v' (n + m) (xs ++ news) → w.grownBy w' v.ownBlock → (v'.ownBlock = v.ownBlock ∨ v'.ownBlock = some w.heap.size) → K (a.put o.dst v') w') : o.wp P a w K Q := by
  obtain ⟨v', w', hrun, h2, h3, h4⟩ := run_append_SL (P := P) base t o.type e i z bytes ht hi hz hsize hby hzs hsz hown hr h1 h63 hbytes hbase
  unfold Oper.wp execOp
  simp only [ho, resolve, invoke, builtin, Sem.run_bind, Sem.run_pure, Result.andThen_ok, List.map_toArray, List.map_cons, List.map_nil, hs, hx, hrun]
  exact h v' w' h2 h3 h4
theorem wpList_append_SL {ops : Array Oper} {rest : List Oper} {o : Oper} {a : Act} {Q : Exit → Act → World → Prop} (hgd : o.guard = none) (s x : Operand) (t : TypeId)
    (ho : o.op = .call { callee := .builtin .append, args := #[s, x], argTypes := #[t, t] })
    (base : Nat) (e : TypeId) (i : TypeInfo) (z : Value) (bytes : Nat) (ht : P.underlying t = some (.slice e)) (hi : P.info? e = some i) (hz : i.zero = some z)
    (hsize : i.size = size) (hby : i.bytes = bytes) (hzs : z.cells.size = size) (hsz : 0 < size)
    {v : Value} {n : Nat} {xs : List Value} (hs : a.eval s = v) (hown : w.ownsRow base e size v n xs)
    {src : Value} {m : Nat} {news : List Value} (hx : a.eval x = src) (hr : SL w B size src m news) (h1 : ∀ u ∈ news, u.oneCell' = true)
    (h63 : n + m ≤ maxLen) (hbytes : (n + m) * bytes ≤ 140737488355328) (hbase : base ≤ w.heap.size)
    (h : ∀ v' w', w'.ownsRow base e size v' (n + m) (xs ++ news) → w.grownBy w' v.ownBlock → (v'.ownBlock = v.ownBlock ∨ v'.ownBlock = some w.heap.size) → wpList P ops Q rest (a.put o.dst v') w') : wpList P ops Q (o :: rest) a w :=
  wpList_plain hgd fun _ hK => wp_append_SL s x t ho base e i z bytes ht hi hz hsize hby hzs hsz hs hown hx hr h1 h63 hbytes hbase fun v' w' h2 h3 h4 => hK _ _ (h v' w' h2 h3 h4)
end
end Go.Proofs.Ytljcgcllhcdleaa
/- Maps with int keys in memory: what a block's map reads as, as a function of the key; looked up, set, deleted from, cleared. -/
namespace Go.Proofs.Ytljcgcllhcdleaa
open Go.RowKit
open Go.ChangeMaps (setBlock)
open Go.Maps (Keyed)
set_option linter.unusedSimpArgs false
set_option linter.unusedVariables false
def InW64 (p : Int) : Prop := -9223372036854775808 ≤ p ∧ p ≤ 9223372036854775807
theorem intK : Keyed Try.prog 3 := Go.Maps.int_keyed Try.underlying3
theorem key_int {p : Int} (h : InW64 p) : keyOf Try.prog 3 (.int .i64 p) = some (.int .i64 p) := Go.Maps.keyOf_int_mk Try.underlying3 (by have h1 := h.1; have h2 := h.2; simp [Lit.wf, IntKind.min, IntKind.max, IntKind.bits, IntKind.signed]; try omega)
abbrev MapF := Int → Option Value
def mapPut (m : MapF) (p : Int) (v : Option Value) : MapF := fun q => if q = p then v else m q
structure IntMap (es : Array MapEntry) (clock : Nat) (m : MapF) : Prop where
  keys : ∀ x ∈ es.toList, ∃ p, x.key = .int .i64 p ∧ InW64 p
  stamped : Go.MapKept.Stamped es clock
  reads : ∀ p v, m p = some v ↔ ∃ x ∈ es.toList, x.key = .int .i64 p ∧ x.val = v
/-- the block b is a map that reads as m -/
def MapIn (w : World) (b : Nat) (m : MapF) : Prop := ∃ es clock, w.heap[b]? = some (.map es clock) ∧ IntMap es clock m
section
variable {es : Array MapEntry} {clock : Nat} {m : MapF} {w w' : World} {b : Nat}
theorem IntMap.keyed (h : IntMap es clock m) : ∀ e ∈ es.toList, ∃ l, keyOf Try.prog 3 e.key = some l := fun e he => by
  obtain ⟨p, hp, h64⟩ := h.keys e he
  exact ⟨_, by rw [hp]; exact key_int h64⟩
theorem IntMap.pair (h : IntMap es clock m) : es.toList.Pairwise (fun x y => x.key ≠ y.key) := ((Go.MapKept.stamped_iff es clock).1 h.stamped).2.2
theorem IntMap.nil (clock : Nat) : IntMap #[] clock (fun _ => none) := ⟨fun x hx => by simp at hx, (Go.MapKept.stamped_iff _ _).2 ⟨fun x hx => by simp at hx, by simp, by simp⟩, fun p v => by simp⟩
theorem IntMap.at_ (h : IntMap es clock m) {x : MapEntry} {p : Int} (hx : x ∈ es.toList) (hk : x.key = .int .i64 p) : m p = some x.val := (h.reads p x.val).2 ⟨x, hx, hk, rfl⟩
theorem IntMap.none_ (h : IntMap es clock m) {p : Int} (hn : ∀ x ∈ es.toList, x.key ≠ .int .i64 p) : m p = none := by
  cases hm : m p with
  | none => rfl
  | some v => obtain ⟨x, hx, hk, _⟩ := (h.reads p v).1 hm; exact absurd hk (hn x hx)
theorem MapIn.lt (h : MapIn w b m) : b < w.heap.size := by obtain ⟨es, c, hb, _⟩ := h; exact (Array.getElem?_eq_some_iff.1 hb).1
theorem MapIn.on (h : MapIn w b m) (hb : Below w.heap.size w w') : MapIn w' b m := by
  have hlt := h.lt
  obtain ⟨es, c, h1, h2⟩ := h
  exact ⟨es, c, (hb.block b hlt).trans h1, h2⟩
theorem MapIn.same (h : MapIn w b m) (hs : w'.heap[b]? = w.heap[b]?) : MapIn w' b m := by
  obtain ⟨es, c, h1, h2⟩ := h
  exact ⟨es, c, hs.trans h1, h2⟩
theorem MapIn.made (w : World) : MapIn (w.alloc (.map #[] 0)) w.heap.size (fun _ => none) := ⟨#[], 0, heap_alloc_new w _, IntMap.nil 0⟩
/-- the world but for a map's block -/
def Turned (w w' : World) (b : Nat) : Prop := ∃ es clock es' clock', w.heap[b]? = some (.map es clock) ∧ w' = setBlock w b (.map es' clock')
theorem Turned.size (h : Turned w w' b) : w'.heap.size = w.heap.size := by obtain ⟨_, _, _, _, _, rfl⟩ := h; simp [setBlock]
theorem Turned.other (h : Turned w w' b) {c : Nat} (hc : c ≠ b) : w'.heap[c]? = w.heap[c]? := by
  obtain ⟨es, c1, es', c2, hb, rfl⟩ := h
  unfold setBlock
  simp only
  rw [Array.getElem?_setIfInBounds_ne (by omega)]
theorem Turned.grown (h : Turned w w' b) : w.grownBy w' (some b) := by
  have hs := h.size
  have ho := fun c hc => h.other (c := c) hc
  obtain ⟨es, c1, es', c2, hb, rfl⟩ := h
  exact ⟨rfl, rfl, rfl, by rw [hs]; exact Nat.le_refl _, fun i _ hi => ho i (fun e => hi (by rw [e]))⟩
theorem Turned.below (h : Turned w w' b) {B : Nat} (hB : B ≤ b) (hw : B ≤ w.heap.size) : Below B w w' := (Below.refl B w).grown h.grown hw (fun q hq => by injection hq with hq; omega)
theorem Turned.cell (h : Turned w w' b) {c o : Nat} (hc : c ≠ b) : w'.cell? ⟨c, o, none⟩ = w.cell? ⟨c, o, none⟩ := by
  unfold World.cell?
  dsimp only
  rw [h.other hc]
theorem Turned.frozen (h : Turned w w' b) {c o : Nat} (hc : c ≠ b) : w'.frozen? ⟨c, o, none⟩ = w.frozen? ⟨c, o, none⟩ := by
  unfold World.frozen?
  dsimp only
  rw [h.other hc]
theorem set_at (w : World) (hb : b < w.heap.size) (o : Obj) : (setBlock w b o).heap[b]? = some o := by
  unfold setBlock
  simp [Array.getElem?_setIfInBounds_self_of_lt hb]
/-- looked up -/
theorem MapIn.lookup (h : MapIn w b m) {T e : TypeId} {z : Value} (ht : Try.prog.underlying T = some (.map 3 e)) (hz : (zeroValue e).run Try.prog w = .ok z w) {p : Int} (hp : InW64 p) (ok : Bool) :
    (Go.Instr.lookup T (.map (some b)) (.int .i64 p) ok).run Try.prog w = .ok (if ok then .tuple #[(m p).getD z, .bool (m p).isSome] else (m p).getD z) w := by
  obtain ⟨es, clock, hb, F⟩ := h
  rcases intK.find w (key_int hp) es.toList F.keyed with ⟨h1, h2⟩ | ⟨j, e0, h1, h2, h3⟩
  · rw [F.none_ h2]
    cases ok <;> simp [Go.Instr.lookup, run_underlying ht, Go.MapKept.run_getObj_map hb, intK.check w _ (key_int hp), h1, hz, Result.andThen]
  · rw [F.at_ (List.mem_of_getElem? h2) h3]
    cases ok <;> simp [Go.Instr.lookup, run_underlying ht, Go.MapKept.run_getObj_map hb, intK.check w _ (key_int hp), h1, Result.andThen]
/-- set -/
theorem IntMap.push (F : IntMap es clock m) {p : Int} (hp : InW64 p) (hn : ∀ x ∈ es.toList, x.key ≠ .int .i64 p) (v : Value) : IntMap (es.push ⟨.int .i64 p, v, clock⟩) (clock + 1) (mapPut m p (some v)) := by
  refine ⟨fun x hx => ?_, Go.MapKept.stamped_push F.stamped hn, fun q u => ?_⟩
  · simp only [Array.toList_push, List.mem_append, List.mem_singleton] at hx
    rcases hx with hx | rfl
    · exact F.keys x hx
    · exact ⟨p, rfl, hp⟩
  · unfold mapPut
    simp only [Array.toList_push, List.mem_append, List.mem_singleton]
    by_cases hq : q = p
    · subst hq
      rw [if_pos rfl]
      refine ⟨fun h => ?_, fun ⟨x, hx, hk, hv⟩ => ?_⟩
      · injection h with h
        exact ⟨_, .inr rfl, rfl, h⟩
      · rcases hx with hx | rfl
        · exact absurd hk (hn x hx)
        · exact congrArg some hv
    · rw [if_neg hq, F.reads]
      refine ⟨fun ⟨x, hx, hk, hv⟩ => ⟨x, .inl hx, hk, hv⟩, fun ⟨x, hx, hk, hv⟩ => ?_⟩
      rcases hx with hx | rfl
      · exact ⟨x, hx, hk, hv⟩
      · injection hk with _ hk
        exact absurd hk.symm hq
theorem IntMap.set (F : IntMap es clock m) {p : Int} {j : Nat} {e0 : MapEntry} (h2 : es.toList[j]? = some e0) (h3 : e0.key = .int .i64 p) (hp : InW64 p) (v : Value) : IntMap (es.modify j (fun e => ⟨.int .i64 p, v, e.born⟩)) clock (mapPut m p (some v)) := by
  have hj : es[j]? = some e0 := by simpa using h2
  have hl : (es.modify j (fun e => (⟨.int .i64 p, v, e.born⟩ : MapEntry))).toList = es.toList.set j ⟨.int .i64 p, v, e0.born⟩ := by
    rw [Array.toList_modify]
    exact Go.ChangeMaps.modify_eq_set _ _ _ _ h2
  have hs := Go.MapKept.stamped_modify F.stamped j (fun e => ⟨.int .i64 p, v, e.born⟩) (fun _ _ => rfl) (fun e' _ he' => by rw [hj] at he'; injection he' with he'; rw [← he', h3])
  have hpw := ((Go.MapKept.stamped_iff _ _).1 hs).2.2
  have hin : (⟨.int .i64 p, v, e0.born⟩ : MapEntry) ∈ (es.modify j (fun e => (⟨.int .i64 p, v, e.born⟩ : MapEntry))).toList := by
    rw [hl]
    exact List.mem_set (List.getElem?_eq_some_iff.1 h2).1 _
  refine ⟨fun x hx => ?_, hs, fun q u => ?_⟩
  · rw [hl] at hx
    rcases List.mem_or_eq_of_mem_set hx with hx | rfl
    · exact F.keys x hx
    · exact ⟨p, rfl, hp⟩
  · unfold mapPut
    by_cases hq : q = p
    · subst hq
      rw [if_pos rfl]
      refine ⟨fun h => ?_, fun ⟨x, hx, hk, hv⟩ => ?_⟩
      · injection h with h
        exact ⟨_, hin, rfl, h⟩
      · have := Go.entry_eq_of_key hpw hx hin hk
        rw [this] at hv
        exact congrArg some hv
    · rw [if_neg hq, F.reads]
      refine ⟨fun ⟨x, hx, hk, hv⟩ => ?_, fun ⟨x, hx, hk, hv⟩ => ?_⟩
      · obtain ⟨i, hi⟩ := List.getElem?_of_mem hx
        have hne : j ≠ i := fun e => by
          subst e
          rw [h2] at hi
          injection hi with hi
          rw [← hi, h3] at hk
          injection hk with _ hk
          exact hq hk.symm
        refine ⟨x, ?_, hk, hv⟩
        rw [hl]
        exact List.mem_of_getElem? (i := i) (by rw [List.getElem?_set_ne hne]; exact hi)
      · rw [hl] at hx
        rcases List.mem_or_eq_of_mem_set hx with hx | rfl
        · exact ⟨x, hx, hk, hv⟩
        · injection hk with _ hk
          exact absurd hk.symm hq
theorem MapIn.update (h : MapIn w b m) {T e : TypeId} (ht : Try.prog.underlying T = some (.map 3 e)) {p : Int} (hp : InW64 p) (v : Value) :
    ∃ w', (Go.Instr.mapUpdate T (.map (some b)) (.int .i64 p) v).run Try.prog w = .ok () w' ∧ MapIn w' b (mapPut m p (some v)) ∧ Turned w w' b := by
  have hlt := h.lt
  obtain ⟨es, clock, hb, F⟩ := h
  rcases intK.find w (key_int hp) es.toList F.keyed with ⟨h1, h2⟩ | ⟨j, e0, h1, h2, h3⟩
  · refine ⟨setBlock w b (.map (es.push ⟨.int .i64 p, v, clock⟩) (clock + 1)), ?_, ⟨_, _, set_at w hlt _, F.push hp h2 v⟩, ⟨es, clock, _, _, hb, rfl⟩⟩
    simp [Go.Instr.mapUpdate, run_underlying ht, Go.MapKept.run_getObj_map hb, intK.check w false (key_int hp), h1, Go.MapKept.run_setObj_map _ hb, Result.andThen, setBlock]
  · have hj : es[j]? = some e0 := by simpa using h2
    refine ⟨setBlock w b (.map (es.modify j (fun e => ⟨.int .i64 p, v, e.born⟩)) clock), ?_, ⟨_, _, set_at w hlt _, F.set h2 h3 hp v⟩, ⟨es, clock, _, _, hb, rfl⟩⟩
    simp [Go.Instr.mapUpdate, run_underlying ht, Go.MapKept.run_getObj_map hb, intK.check w false (key_int hp), h1, hj, h3, intK.stays w (key_int hp), Go.MapKept.run_setObj_map _ hb, Result.andThen, setBlock]
/-- deleted from -/
theorem IntMap.drop (F : IntMap es clock m) {p : Int} {j : Nat} {e0 : MapEntry} (h2 : es.toList[j]? = some e0) (h3 : e0.key = .int .i64 p) : IntMap (es.eraseIdxIfInBounds j) clock (mapPut m p none) := by
  have hjs : j < es.size := by have := (List.getElem?_eq_some_iff.1 h2).1; simpa using this
  have hl : (es.eraseIdxIfInBounds j).toList = es.toList.eraseIdx j := by
    unfold Array.eraseIdxIfInBounds
    rw [dif_pos hjs]
    simp
  refine ⟨fun x hx => ?_, Go.MapKept.stamped_erase F.stamped j, fun q u => ?_⟩
  · rw [hl] at hx
    exact F.keys x ((List.eraseIdx_sublist _ _).subset hx)
  · unfold mapPut
    rw [hl]
    by_cases hq : q = p
    · subst hq
      rw [if_pos rfl]
      refine ⟨(fun h => by cases h), fun ⟨x, hx, hk, _⟩ => ?_⟩
      exfalso
      obtain ⟨i, hne, hi⟩ := List.mem_eraseIdx_iff_getElem?.1 hx
      have hpw := F.pair
      rw [List.pairwise_iff_getElem] at hpw
      obtain ⟨il, ie⟩ := List.getElem?_eq_some_iff.1 hi
      obtain ⟨jl, je⟩ := List.getElem?_eq_some_iff.1 h2
      rcases Nat.lt_or_ge i j with h | h
      · exact hpw i j il jl h (by rw [ie, je, hk, h3])
      · exact hpw j i jl il (by omega) (by rw [ie, je, hk, h3])
    · rw [if_neg hq, F.reads]
      refine ⟨fun ⟨x, hx, hk, hv⟩ => ?_, fun ⟨x, hx, hk, hv⟩ => ⟨x, (List.eraseIdx_sublist _ _).subset hx, hk, hv⟩⟩
      obtain ⟨i, hi⟩ := List.getElem?_of_mem hx
      refine ⟨x, List.mem_eraseIdx_iff_getElem?.2 ⟨i, fun e => ?_, hi⟩, hk, hv⟩
      subst e
      rw [h2] at hi
      injection hi with hi
      rw [← hi, h3] at hk
      injection hk with _ hk
      exact hq hk.symm
theorem MapIn.drop (h : MapIn w b m) {T e : TypeId} (ht : Try.prog.underlying T = some (.map 3 e)) {p : Int} (hp : InW64 p) (ty : TypeId) :
    ∃ w', (Builtin.delete_ #[T, 3] ty #[.map (some b), .int .i64 p]).run Try.prog w = .ok (.tuple #[]) w' ∧ MapIn w' b (mapPut m p none) ∧ Turned w w' b := by
  have hlt := h.lt
  obtain ⟨es, clock, hb, F⟩ := h
  rcases intK.find w (key_int hp) es.toList F.keyed with ⟨h1, h2⟩ | ⟨j, e0, h1, h2, h3⟩
  · refine ⟨setBlock w b (.map es clock), ?_, ⟨_, _, set_at w hlt _, ?_⟩, ⟨es, clock, _, _, hb, rfl⟩⟩
    · simp [Builtin.delete_, run_underlying ht, Go.MapKept.run_getObj_map hb, intK.check w _ (key_int hp), h1, Go.MapKept.run_setObj_map _ hb, Result.andThen, setBlock]
    · have : mapPut m p none = m := by
        funext q
        unfold mapPut
        by_cases hq : q = p
        · rw [if_pos hq, hq, F.none_ h2]
        · rw [if_neg hq]
      rw [this]
      exact F
  · refine ⟨setBlock w b (.map (es.eraseIdxIfInBounds j) clock), ?_, ⟨_, _, set_at w hlt _, F.drop h2 h3⟩, ⟨es, clock, _, _, hb, rfl⟩⟩
    simp [Builtin.delete_, run_underlying ht, Go.MapKept.run_getObj_map hb, intK.check w _ (key_int hp), h1, Go.MapKept.run_setObj_map _ hb, Result.andThen, setBlock]
/-- cleared -/
theorem MapIn.clear (h : MapIn w b m) {T e : TypeId} (ht : Try.prog.underlying T = some (.map 3 e)) (ty : TypeId) :
    ∃ w', (Builtin.clear_ #[T] ty #[.map (some b)]).run Try.prog w = .ok (.tuple #[]) w' ∧ MapIn w' b (fun _ => none) ∧ Turned w w' b := by
  have hlt := h.lt
  obtain ⟨es, clock, hb, F⟩ := h
  refine ⟨setBlock w b (.map #[] clock), ?_, ⟨_, _, set_at w hlt _, IntMap.nil clock⟩, ⟨es, clock, _, _, hb, rfl⟩⟩
  simp [Builtin.clear_, run_underlying ht, Go.MapKept.run_getObj_map hb, Go.MapKept.run_setObj_map _ hb, Result.andThen, setBlock]
end
/-! ### at the operation, for the walk -/
section
variable {ops : Array Oper} {rest : List Oper} {o : Oper} {a : Act} {w : World} {Q : Exit → Act → World → Prop}
theorem wpList_lookup_at (hg : o.guard = none) (x y : Operand) (T : TypeId) (ok : Bool) (ho : o.op = Op.lookup T x y ok) {b : Nat} {p : Int} {v : Value} (hx : a.eval x = .map (some b)) (hy : a.eval y = .int .i64 p)
    (hr : (Go.Instr.lookup T (.map (some b)) (.int .i64 p) ok).run Try.prog w = .ok v w) (hK : wpList Try.prog ops Q rest (a.put o.dst v) w) : wpList Try.prog ops Q (o :: rest) a w := by
  refine wpList_plain hg fun K' hK' => ?_
  unfold Oper.wp
  simp [execOp, ho, hx, hy, hr, Result.andThen]
  exact hK' _ _ hK
theorem wpList_lookup_atg (hw : Region.wanted o (yielded ops a.tmps) = true) (x y : Operand) (T : TypeId) (ok : Bool) (ho : o.op = Op.lookup T x y ok) {b : Nat} {p : Int} {v : Value} (hx : a.eval x = .map (some b)) (hy : a.eval y = .int .i64 p)
    (hr : (Go.Instr.lookup T (.map (some b)) (.int .i64 p) ok).run Try.prog w = .ok v w) (hK : wpList Try.prog ops Q rest (a.put o.dst v) w) : wpList Try.prog ops Q (o :: rest) a w := by
  refine wpList_step fun K' hK' => ?_
  rw [if_pos hw]
  unfold Oper.wp
  simp [execOp, ho, hx, hy, hr, Result.andThen]
  exact hK' _ _ hK
theorem wpList_update_at (hg : o.guard = none) (x y z : Operand) (T e : TypeId) (ho : o.op = Op.mapUpdate T x y z) (ht : Try.prog.underlying T = some (.map 3 e)) {b : Nat} {p : Int} {v : Value} {m : MapF} (hx : a.eval x = .map (some b)) (hy : a.eval y = .int .i64 p) (hz : a.eval z = v)
    (hm : MapIn w b m) (hp : InW64 p) (hK : ∀ w', MapIn w' b (mapPut m p (some v)) → Turned w w' b → wpList Try.prog ops Q rest (a.put o.dst undef) w') : wpList Try.prog ops Q (o :: rest) a w := by
  refine wpList_plain hg fun K' hK' => ?_
  obtain ⟨w', hr, h1, h2⟩ := hm.update ht hp v
  unfold Oper.wp
  simp [execOp, ho, hx, hy, hz, hr, Result.andThen]
  exact hK' _ _ (hK w' h1 h2)
theorem wpList_delete_at (hg : o.guard = none) (x y : Operand) (T e : TypeId) (ho : o.op = Op.call { callee := Callee.builtin Builtin.delete, args := #[x, y], argTypes := #[T, 3] }) (ht : Try.prog.underlying T = some (.map 3 e)) {b : Nat} {p : Int} {m : MapF} (hx : a.eval x = .map (some b)) (hy : a.eval y = .int .i64 p)
    (hm : MapIn w b m) (hp : InW64 p) (hK : ∀ w', MapIn w' b (mapPut m p none) → Turned w w' b → wpList Try.prog ops Q rest (a.put o.dst (.tuple #[])) w') : wpList Try.prog ops Q (o :: rest) a w := by
  refine wpList_plain hg fun K' hK' => ?_
  obtain ⟨w', hr, h1, h2⟩ := hm.drop ht hp o.type
  unfold Oper.wp
  simp [execOp, ho, resolve, invoke, builtin, hx, hy, hr, Result.andThen]
  exact hK' _ _ (hK w' h1 h2)
theorem wpList_clear_at (hg : o.guard = none) (x : Operand) (T e : TypeId) (ho : o.op = Op.call { callee := Callee.builtin Builtin.clear, args := #[x], argTypes := #[T] }) (ht : Try.prog.underlying T = some (.map 3 e)) {b : Nat} {m : MapF} (hx : a.eval x = .map (some b))
    (hm : MapIn w b m) (hK : ∀ w', MapIn w' b (fun _ => none) → Turned w w' b → wpList Try.prog ops Q rest (a.put o.dst (.tuple #[])) w') : wpList Try.prog ops Q (o :: rest) a w := by
  refine wpList_plain hg fun K' hK' => ?_
  obtain ⟨w', hr, h1, h2⟩ := hm.clear ht o.type
  unfold Oper.wp
  simp [execOp, ho, resolve, invoke, builtin, hx, hr, Result.andThen]
  exact hK' _ _ (hK w' h1 h2)
end
end Go.Proofs.Ytljcgcllhcdleaa
/- A range over a map with int keys, under way. -/
namespace Go.Proofs.Ytljcgcllhcdleaa
open Go.RowKit
open Go.ChangeMaps (setBlock)
open Go.Maps (Keyed)
set_option linter.unusedSimpArgs false
set_option linter.unusedVariables false
def RangeIn (w : World) (b r : Nat) (m : MapF) (left : Int → Bool) (cnt : Nat) : Prop := ∃ es clock since seen c0, w.heap[b]? = some (.map es clock) ∧ IntMap es clock m ∧ w.heap[r]? = some (.mapIter (some b) since seen c0) ∧ (∀ x ∈ es.toList, x.born < since) ∧ since ≤ c0 ∧ since ≤ clock ∧
  (∀ p, left p = true ↔ ∃ x ∈ es.toList, x.key = .int .i64 p ∧ seen.contains x.born = false) ∧ (leftOf es seen).size = cnt
section
variable {w w' : World} {b r : Nat} {m : MapF} {left : Int → Bool} {cnt : Nat}
theorem RangeIn.map (h : RangeIn w b r m left cnt) : MapIn w b m := by obtain ⟨es, clock, _, _, _, h1, h2, _⟩ := h; exact ⟨es, clock, h1, h2⟩
theorem RangeIn.same (h : RangeIn w b r m left cnt) (hb : w'.heap[b]? = w.heap[b]?) (hr : w'.heap[r]? = w.heap[r]?) : RangeIn w' b r m left cnt := by
  obtain ⟨es, clock, since, seen, c0, h1, h2, h3, h4⟩ := h
  exact ⟨es, clock, since, seen, c0, hb.trans h1, h2, hr.trans h3, h4⟩
theorem RangeIn.lt (h : RangeIn w b r m left cnt) : r < w.heap.size := by obtain ⟨_, _, _, _, _, _, _, h3, _⟩ := h; exact (Array.getElem?_eq_some_iff.1 h3).1
theorem RangeIn.ne (h : RangeIn w b r m left cnt) : r ≠ b := by
  obtain ⟨_, _, _, _, _, h1, _, h3, _⟩ := h
  intro e
  rw [e, h1] at h3
  cases h3
theorem MapIn.range (h : MapIn w b m) {T e : TypeId} (ht : Try.prog.underlying T = some (.map 3 e)) :
    ∃ w' cnt, (Go.Instr.range T (.map (some b))).run Try.prog w = .ok (.pointer (some ⟨w.heap.size, 0, none⟩)) w' ∧ RangeIn w' b w.heap.size m (fun p => (m p).isSome) cnt ∧ Below w.heap.size w w' ∧ w'.heap.size = w.heap.size + 1 := by
  have hlt := h.lt
  obtain ⟨es, clock, hb, F⟩ := h
  refine ⟨w.alloc (.mapIter (some b) clock #[] clock), _, run_range_map w T _ e b es clock ht hb, ⟨es, clock, clock, #[], clock, ?_, F, heap_alloc_new w _, ((Go.MapKept.stamped_iff es clock).1 F.stamped).1, Nat.le_refl _, Nat.le_refl _, fun p => ?_, rfl⟩, (Below.refl _ _).alloc (Nat.le_refl _) _, by simp⟩
  · exact (Below.block ((Below.refl w.heap.size w).alloc (Nat.le_refl _) _) b hlt).trans hb
  · rw [Option.isSome_iff_exists]
    refine ⟨fun ⟨v, hv⟩ => ?_, fun ⟨x, hx, hk, _⟩ => ⟨_, F.at_ hx hk⟩⟩
    obtain ⟨x, hx, hk, _⟩ := (F.reads p v).1 hv
    exact ⟨x, hx, hk, by simp⟩
theorem RangeIn.next (h : RangeIn w b r m left cnt) (ty : TypeId) :
    (cnt = 0 ∧ (∀ p, left p = false) ∧ (Go.Instr.next (.pointer (some ⟨r, 0, none⟩)) false ty).run Try.prog w = .ok (.tuple #[.bool false]) w) ∨
    ∃ p v w' cnt', InW64 p ∧ left p = true ∧ m p = some v ∧ (Go.Instr.next (.pointer (some ⟨r, 0, none⟩)) false ty).run Try.prog w = .ok (.tuple #[.bool true, .int .i64 p, v]) w' ∧ RangeIn w' b r m (fun q => left q && !decide (q = p)) cnt' ∧ cnt' < cnt ∧ w.grownBy w' (some r) ∧ w'.heap.size = w.heap.size ∧
      (Go.Instr.entry (.pointer (some ⟨r, 0, none⟩))).run Try.prog w' = .ok (.tuple #[.int .i64 p, v]) w' := by
  have hne := h.ne
  obtain ⟨es, clock, since, seen, c0, hb, F, hr, hold, hsc, hsk, hl, rfl⟩ := h
  have hst := (Go.MapKept.stamped_iff es clock).1 F.stamped
  rcases run_next_at (P := Try.prog) w ty r b since c0 seen es clock hr hb hold hsc with ⟨h0, hrun⟩ | ⟨e, he, w1, hal, hrun⟩
  · refine Or.inl ⟨h0, fun p => ?_, hrun⟩
    cases hp : left p with
    | false => rfl
    | true =>
      obtain ⟨x, hx, _, hs⟩ := (hl p).1 hp
      rw [all_seen es seen h0 x hx] at hs
      cases hs
  · obtain ⟨hem, hes⟩ := mem_left he
    obtain ⟨p, hp, h64⟩ := F.keys e hem
    have hr1 : w1.heap[r]? = some (.mapIter (some b) since seen c0) := by rcases hal with rfl | rfl <;> exact hr
    have hb1 : w1.heap[b]? = some (.map es clock) := by rcases hal with rfl | rfl <;> exact hb
    have hset := Go.MapKept.heap_set (o' := .mapIter (some b) since (seen.push e.born) clock) hr1
    have hb' : (setBlock w1 r (.mapIter (some b) since (seen.push e.born) clock)).heap[b]? = some (.map es clock) := (hset.2 b (fun e1 => hne e1.symm)).trans hb1
    have hen := run_entry_at (P := Try.prog) _ r b since seen es clock e hset.1 hb' hem hst.2.1
    rw [hp] at hrun hen
    refine Or.inr ⟨p, e.val, _, _, h64, (hl p).2 ⟨e, hem, hp, hes⟩, F.at_ hem hp, hrun, ⟨es, clock, since, seen.push e.born, clock, hb', F, hset.1, hold, hsk, hsk, fun q => ?_, rfl⟩, left_shrinks es seen e he, ?_, ?_, hen⟩
    · rw [Bool.and_eq_true, Bool.not_eq_true', decide_eq_false_iff_not, hl]
      refine ⟨fun ⟨⟨x, hx, hk, hs⟩, hq⟩ => ⟨x, hx, hk, ?_⟩, fun ⟨x, hx, hk, hs⟩ => ⟨⟨x, hx, hk, ?_⟩, ?_⟩⟩
      · rw [contains_push, hs, Bool.false_or, beq_eq_false_iff_ne]
        intro hbe
        have := born_inj hst.2.1 hx hem hbe
        rw [this, hp] at hk
        injection hk with _ hk
        exact hq hk.symm
      · rw [contains_push, Bool.or_eq_false_iff] at hs
        exact hs.1
      · intro hq
        subst hq
        have := entry_eq_of_key hst.2.2 hx hem (hk.trans hp.symm)
        rw [contains_push, this] at hs
        simp at hs
    · rcases hal with rfl | rfl <;> exact ⟨rfl, rfl, rfl, by simp [setBlock], fun i _ hi => hset.2 i (fun e1 => hi (by rw [e1]))⟩
    · rcases hal with rfl | rfl <;> simp [setBlock]
end
/-! ### at the operation, for the walk -/
section
variable {ops : Array Oper} {rest : List Oper} {o : Oper} {a : Act} {w : World} {Q : Exit → Act → World → Prop}
theorem wpList_range_at (hg : o.guard = none) (x : Operand) (T e : TypeId) (ho : o.op = Op.range T x) (ht : Try.prog.underlying T = some (.map 3 e)) {b : Nat} {m : MapF} (hx : a.eval x = .map (some b)) (hm : MapIn w b m)
    (hK : ∀ w' cnt, RangeIn w' b w.heap.size m (fun p => (m p).isSome) cnt → Below w.heap.size w w' → w'.heap.size = w.heap.size + 1 → wpList Try.prog ops Q rest (a.put o.dst (.pointer (some ⟨w.heap.size, 0, none⟩))) w') : wpList Try.prog ops Q (o :: rest) a w := by
  refine wpList_plain hg fun K' hK' => ?_
  obtain ⟨w', cnt, hr, h1, h2, h3⟩ := hm.range ht
  unfold Oper.wp
  simp [execOp, ho, hx, hr, Result.andThen]
  exact hK' _ _ (hK w' cnt h1 h2 h3)
theorem wpList_next_at (hg : o.guard = none) (x : Operand) (ho : o.op = Op.next x false) {b r : Nat} {m : MapF} {left : Int → Bool} {cnt : Nat} (hx : a.eval x = .pointer (some ⟨r, 0, none⟩)) (hm : RangeIn w b r m left cnt)
    (hDone : cnt = 0 → (∀ p, left p = false) → wpList Try.prog ops Q rest (a.put o.dst (.tuple #[.bool false])) w)
    (hMore : ∀ p v w' cnt', InW64 p → left p = true → m p = some v → RangeIn w' b r m (fun q => left q && !decide (q = p)) cnt' → cnt' < cnt → w.grownBy w' (some r) → w'.heap.size = w.heap.size → (Go.Instr.entry (.pointer (some ⟨r, 0, none⟩))).run Try.prog w' = .ok (.tuple #[.int .i64 p, v]) w' →
      wpList Try.prog ops Q rest (a.put o.dst (.tuple #[.bool true, .int .i64 p, v])) w') : wpList Try.prog ops Q (o :: rest) a w := by
  refine wpList_plain hg fun K' hK' => ?_
  unfold Oper.wp
  rcases hm.next o.type with ⟨h0, hl, hrun⟩ | ⟨p, v, w', cnt', h1, h2, h3, hrun, h4, h5, h6, h7, h8⟩
  · simp [execOp, ho, hx, hrun, Result.andThen]
    exact hK' _ _ (hDone h0 hl)
  · simp [execOp, ho, hx, hrun, Result.andThen]
    exact hK' _ _ (hMore p v w' cnt' h1 h2 h3 h4 h5 h6 h7 h8)
end
end Go.Proofs.Ytljcgcllhcdleaa
/- maps.Clone at map[int]bool. -/
namespace Go.Proofs.Ytljcgcllhcdleaa
open Go.RowKit
set_option linter.unusedSimpArgs false
set_option linter.unusedVariables false
set_option maxRecDepth 8000 in
set_option maxHeartbeats 2000000 in
theorem clone_any (b : Nat) (m : MapF) (w : World) (h : MapIn w b m) :
    Calls Try.prog 63 #[.map (some b)] w fun e w' => e = .returned (.map (some w.heap.size)) ∧ MapIn w' w.heap.size m ∧ Below w.heap.size w w' ∧ w'.heap.size = w.heap.size + 1 := by
  obtain ⟨es, clock, hb, F⟩ := h
  have hq := fun w => Go.Proofs.run_eql_map_nil_sl (P := Try.prog) w 107 _ _ (some b) Try.underlying107
  have hres : ∀ w' : World, w' = w.alloc (.map es clock) → MapIn w' w.heap.size m ∧ Below w.heap.size w w' ∧ w'.heap.size = w.heap.size + 1 := fun w' e => by
    subst e
    exact ⟨⟨es, clock, heap_alloc_new w _, F⟩, (Below.refl _ _).alloc (Nat.le_refl _) _, by simp⟩
  have HB := Lib.hid hb
  clear hb
  go_enter Try.func63, Try.ntmps63
  go_wp2
  rw [run_callFunc_extern Try.func89 (by kernel_rfl) (by kernel_rfl) (by kernel_rfl) (e := Extern.MapsClone.clone) (by kernel_rfl), Go.Proofs.run_maps_clone_sl w 107 HB.out]
  simp only [Result.andThen]
  rw [Oper.upon_value]
  go_wp2
  rw [Go.Proofs.run_typeAssert_map_sl _ 107 20 _ _ _ Try.underlying107]
  simp only [Result.andThen]
  rw [Oper.upon_value]
  go_wp2
  go_ret
  exact ⟨rfl, hres _ rfl⟩
end Go.Proofs.Ytljcgcllhcdleaa
/- Chapter 1: what is made of two words. -/
namespace Go.Proofs.Ytljcgcllhcdleaa
open Go.RowKit
set_option linter.unusedSimpArgs false
set_option linter.unusedVariables false
theorem op_cases (op : Int) : op = 1 ∨ op = 2 ∨ op = 3 ∨ op = 4 ∨ op = 5 ∨ op = 6 ∨ op = 7 ∨ op = 8 ∨ op = 9 ∨ op = 10 ∨ op = 11 ∨ op = 12 ∨ (op < 1 ∨ 12 < op) := by omega
theorem u32_low (a : Int) : IntKind.u32.wrap a = ((Ev.low a : Nat) : Int) := by rw [IntKind.wrap_u32]; unfold Ev.low; omega

theorem cast_shl (x k : Nat) : (x : Int) * 2 ^ k % 4294967296 = ((Ev.wshl x k : Nat) : Int) := by
  unfold Ev.wshl
  rw [Int.natCast_emod, Int.natCast_mul, Int.natCast_pow]
  rfl
theorem cast_shr (x k : Nat) : (x : Int) / 2 ^ k = ((x / 2 ^ k : Nat) : Int) := by
  rw [Int.natCast_ediv, Int.natCast_pow]
  rfl
theorem wrap_shr {x k : Nat} (h : x < 4294967296) : wrap64 ((x : Int) / 2 ^ k) = ((Ev.wshr x k : Nat) : Int) := by
  have hle : x / 2 ^ k ≤ x := Nat.div_le_self _ _
  rw [cast_shr]
  unfold Ev.wshr
  generalize x / 2 ^ k = z at *
  exact IntWalk.wrap64_in _ ⟨by omega, by omega⟩
theorem wrap_div {x y : Nat} (h : x < 4294967296) : (x : Int) / (y : Int) % 4294967296 = ((x / y : Nat) : Int) := by
  have hle : x / y ≤ x := Nat.div_le_self _ _
  rw [← Int.natCast_ediv]
  generalize x / y = z at *
  omega
theorem wrap_mod {x y : Nat} (h : x < 4294967296) : wrap64 ((x : Int) % (y : Int)) = ((x % y : Nat) : Int) := by
  have hle : x % y ≤ x := Nat.mod_le _ _
  rw [← Int.natCast_emod]
  generalize x % y = z at *
  exact IntWalk.wrap64_in _ ⟨by omega, by omega⟩
theorem twoN_bad {op : Int} (x y : Nat) (h : op < 1 ∨ 12 < op) : Ev.twoN op x y = 0 := by
  unfold Ev.twoN
  rw [if_neg (show ¬ op = 1 by omega), if_neg (show ¬ op = 2 by omega), if_neg (show ¬ op = 3 by omega), if_neg (show ¬ op = 4 by omega), if_neg (show ¬ op = 5 by omega), if_neg (show ¬ op = 6 by omega), if_neg (show ¬ op = 7 by omega), if_neg (show ¬ op = 8 by omega), if_neg (show ¬ op = 9 by omega), if_neg (show ¬ op = 10 by omega), if_neg (show ¬ op = 11 by omega), if_neg (show ¬ op = 12 by omega)]
theorem twoErr_bad {op : Int} (h : op < 1 ∨ 12 < op) : Ev.twoErr op = 1 := by unfold Ev.twoErr; rw [if_neg (by omega)]

set_option maxHeartbeats 4000000 in
theorem two_any (op a b : Int) (w : World) :
    Calls Try.prog 72 #[.int .i64 op, .int .i64 a, .int .i64 b] w fun e w' => e = .returned (.tuple #[.int .i64 (Ev.two op a b), .int .i64 (Ev.twoErr op)]) ∧ Below w.heap.size w w' := by
  have ha := u32_low a
  have hb := u32_low b
  have la := Ev.low_lt a
  have lb := Ev.low_lt b
  unfold Ev.two
  generalize Ev.low a = x at *
  generalize Ev.low b = y at *
  have hy : y % 32 < 32 := Nat.mod_lt _ (by decide)
  have q1 := u32_and_nat x y la lb
  have q2 := u32_or_nat x y la lb
  have q3 := u32_xor_nat x y la lb
  have l1 : x &&& y < 4294967296 := Ev.and_lt la
  have l2 : x ||| y < 4294967296 := Ev.or_lt la lb
  have l3 : x ^^^ y < 4294967296 := Ev.xor_lt la lb
  have q4 : bits BinOp.and IntKind.u32 (y : Int) 31 = ((y % 32 : Nat) : Int) := by
    have := u32_and_nat y 31 lb (by decide)
    have e := Nat.and_two_pow_sub_one_eq_mod y 5
    simp at e
    rw [e] at this
    exact this
  generalize hz1 : x &&& y = z1 at *
  generalize hz2 : x ||| y = z2 at *
  generalize hz3 : x ^^^ y = z3 at *
  have HZ := Lib.hid (And.intro hz1 (And.intro hz2 hz3))
  clear hz1 hz2 hz3
  rcases op_cases op with rfl | rfl | rfl | rfl | rfl | rfl | rfl | rfl | rfl | rfl | rfl | rfl | h
  rotate_left 12
  · rw [twoN_bad _ _ h, twoErr_bad h]
    clear HZ q1 q2 q3 q4
    go_enter Try.func72, Try.ntmps72
    go_wp2
    all_goals (go_ret2; exact ⟨rfl, by (repeat' first | with_reducible (first | exact Below.refl _ _ | assumption | refine Below.alloc ?_ ?_ _ | refine below_drewN ?_ _ | refine Below.drew ?_ | refine Below.setCell ?_ ?_ _ | refine Below.trans ?_ (Below.mono (by with_reducible assumption) ?_)) | go_size)⟩)
  all_goals
    go_enter Try.func72, Try.ntmps72
    go_wp2
  all_goals (try go_ret2)
  all_goals (try (refine ⟨congrArg Ending.returned (congrArg Value.tuple ?_), by (repeat' first | with_reducible (first | exact Below.refl _ _ | assumption | refine Below.alloc ?_ ?_ _ | refine below_drewN ?_ _ | refine Below.drew ?_ | refine Below.setCell ?_ ?_ _ | refine Below.trans ?_ (Below.mono (by with_reducible assumption) ?_)) | go_size)⟩))
  all_goals (try simp [Ev.twoErr, Ev.twoN])
  all_goals (try (obtain ⟨rfl, rfl, rfl⟩ := HZ.out))
  all_goals (try (first | omega | (unfold Ev.wadd; omega) | (unfold Ev.wsub; omega) | (split <;> omega)))
  all_goals
    first
    | exact cast_shl _ _
    | exact wrap_shr la
    | (have h0 : 0 < y := by assumption
       rw [if_neg (by omega)]
       exact wrap_div la)
    | (have h0 : 0 < y := by assumption
       rw [if_neg (by omega)]
       exact wrap_mod la)
    | (have h0 : ((x : Int) == (y : Int)) = true := by assumption
       rw [beq_iff_eq] at h0
       rw [if_pos (by omega)]; rfl)
    | (have h0 : ((x : Int) == (y : Int)) = false := by assumption
       rw [beq_eq_false_iff_ne] at h0
       rw [if_neg (by omega)]; rfl)
end Go.Proofs.Ytljcgcllhcdleaa
