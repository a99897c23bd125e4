import Derived.Test.YtljcgcllhcdleaaMm2
import Derived.Maps.AppendAt
import Derived.Laws.OwnMore
import Derived.Deep.AppendLies
import Derived.OwnWalk
/- The row of a slice, its elements by number. -/
namespace Go.Proofs.Ytljcgcllhcdleaa
open Go.RowKit
theorem RBools.row {w : World} {B : Nat} {v : Value} {l : List Bool} (h : RBools w B v l) (hn : 0 < l.length) :
    ∃ b o c, v = .slice (some ⟨b, o, none⟩) l.length c ∧ b < B ∧ l.length ≤ c ∧ c ≤ maxLen ∧ ∀ k : Nat, k < l.length → w.cell? ⟨b, o + k, none⟩ = some (.bool (Ev.sec l k)) := by
  obtain ⟨b, o, c, e, hb, h1, h2, hc⟩ := SL.row h hn
  exact ⟨b, o, c, e, hb, h1, h2, fun k hk => hc k _ (by simp [Ev.sec, hk])⟩
theorem RInts.row {w : World} {B : Nat} {v : Value} {l : List Int} (h : RInts w B v l) (hn : 0 < l.length) :
    ∃ b o c, v = .slice (some ⟨b, o, none⟩) l.length c ∧ b < B ∧ l.length ≤ c ∧ c ≤ maxLen ∧ ∀ k : Nat, k < l.length → w.cell? ⟨b, o + k, none⟩ = some (.int .i64 (Ev.val l k)) := by
  obtain ⟨b, o, c, e, hb, h1, h2, hc⟩ := SL.row h hn
  exact ⟨b, o, c, e, hb, h1, h2, fun k hk => hc k _ (by simp [Ev.val, hk])⟩
theorem RVars.row {w : World} {B : Nat} {v : Value} {l : List Ev.Vr} (h : RVars w B v l) (hn : 0 < l.length) :
    ∃ b o c, v = .slice (some ⟨b, o, none⟩) l.length c ∧ b < B ∧ l.length ≤ c ∧ c ≤ maxLen ∧ ∀ k : Nat, k < l.length →
      w.cell? ⟨b, o + k * 3, none⟩ = some (.string ⟨(l.getD k default).name.toArray⟩) ∧ w.cell? ⟨b, o + k * 3 + 1, none⟩ = some (.bool (Ev.arrSec l k)) ∧ w.cell? ⟨b, o + k * 3 + 2, none⟩ = some (.int .i64 (l.getD k default).size) := by
  obtain ⟨b, o, c, e, hb, h1, h2, hc⟩ := SL.row h hn
  refine ⟨b, o, c, e, hb, h1, h2, fun k hk => ?_⟩
  have hx : l[k]? = some (l.getD k default) := by simp [hk]
  have hj := fun j u (hu : (cellsV (l.getD k default))[j]? = some u) => hc (k * 3 + j) u (flatMap_at cellsV (fun _ => rfl) l k _ j u hx hu)
  simp only [← Nat.add_assoc] at hj
  exact ⟨hj 0 _ rfl, hj 1 _ (by simp [cellsV, Ev.arrSec]), hj 2 _ rfl⟩
theorem RCode.row {w : World} {B : Nat} {v : Value} {l : List Ev.Instr} (h : RCode w B v l) (hn : 0 < l.length) :
    ∃ b o c, v = .slice (some ⟨b, o, none⟩) l.length c ∧ b < B ∧ l.length ≤ c ∧ c ≤ maxLen ∧ ∀ k i, l[k]? = some i →
      w.cell? ⟨b, o + k * 6, none⟩ = some (.int .i64 i.op) ∧ w.cell? ⟨b, o + k * 6 + 1, none⟩ = some (.int .i64 i.d) ∧
      w.cell? ⟨b, o + k * 6 + 2, none⟩ = some (.int .i64 i.a) ∧ w.cell? ⟨b, o + k * 6 + 3, none⟩ = some (.int .i64 i.b) ∧ w.cell? ⟨b, o + k * 6 + 4, none⟩ = some (.int .i64 i.c) ∧ w.cell? ⟨b, o + k * 6 + 5, none⟩ = some (.int .i64 i.imm) := by
  obtain ⟨b, o, c, e, hb, h1, h2, hc⟩ := SL.row h hn
  refine ⟨b, o, c, e, hb, h1, h2, fun k i hk => ?_⟩
  have hj := fun j u (hu : (cellsI i)[j]? = some u) => hc (k * 6 + j) u (flatMap_at cellsI (fun _ => rfl) l k i j u hk hu)
  simp only [← Nat.add_assoc] at hj
  exact ⟨hj 0 _ rfl, hj 1 _ rfl, hj 2 _ rfl, hj 3 _ rfl, hj 4 _ rfl, hj 5 _ rfl⟩
end Go.Proofs.Ytljcgcllhcdleaa
/- Slices whose row lies from some block on. -/
namespace Go.Proofs.Ytljcgcllhcdleaa
open Go.RowKit
/-- the slice's row, if there is one, lies in a block from lo on -/
def from_ (lo : Nat) (v : Value) : Prop := ∀ a n c, v = .slice (some a) n c → lo ≤ a.block
theorem from_nil (lo n c : Nat) : from_ lo (.slice none n c) := fun a n c h => by cases h
theorem from_some {lo : Nat} {a : Addr} (n c : Nat) (h : lo ≤ a.block) : from_ lo (.slice (some a) n c) := fun a' n' c' e => by cases e; exact h
theorem from_.less {lo lo' : Nat} {v : Value} (h : from_ lo v) (hl : lo' ≤ lo) : from_ lo' v := fun a n c e => Nat.le_trans hl (h a n c e)
/-- a store ahead of it leaves it -/
theorem SL.aside {w : World} {B size n lo : Nat} {v : Value} {xs : List Value} (h : SL w B size v n xs) (hf : from_ lo v) (k o : Nat) (u : Value) (hk : k < lo) : SL (w.setCell ⟨k, o, none⟩ u) B size v n xs := by
  obtain ⟨h1, A, c, rfl, h3, h4, h5, h6⟩ := h
  refine ⟨h1, A, c, rfl, h3, h4, h5, fun hn => ?_⟩
  obtain ⟨b, o', rfl, hlt, hc⟩ := h6 hn
  have hb := hf _ _ _ rfl
  refine ⟨b, o', rfl, hlt, fun j u' hu => ?_⟩
  have hne : k ≠ b := by simp only at hb; omega
  rw [← hc j u' hu]
  unfold World.setCell World.cell?
  simp only [Array.getElem?_modify, hne, if_false]

end Go.Proofs.Ytljcgcllhcdleaa
/- An operation on a map, taken by what its run is known to be. -/
namespace Go.Proofs.Ytljcgcllhcdleaa
open Go.RowKit
section
variable {P : Program} {w : World} {ops : Array Oper} {rest : List Oper} {o : Oper} {a : Act} {Q : Exit → Act → World → Prop}
theorem wpList_insert_run (hg : o.guard = none) (m x v : Operand) (t : TypeId) (hop : o.op = Op.insert t m x v) (mv xv vv : Value) (hm : a.eval m = mv) (hx : a.eval x = xv) (hv : a.eval v = vv) (w' : World)
    (hrun : (Instr.mapUpdate t mv xv vv).run P w = .ok () w') (hK : wpList P ops Q rest (a.put o.dst undef) w') : wpList P ops Q (o :: rest) a w := by
  refine wpList_plain hg fun K' hK' => ?_
  unfold Oper.wp
  simp [execOp, hop, hm, hx, hv, hrun, Result.andThen]
  exact hK' _ _ hK
theorem wpList_update_run (hg : o.guard = none) (m x v : Operand) (t : TypeId) (hop : o.op = Op.mapUpdate t m x v) (mv xv vv : Value) (hm : a.eval m = mv) (hx : a.eval x = xv) (hv : a.eval v = vv) (w' : World)
    (hrun : (Instr.mapUpdate t mv xv vv).run P w = .ok () w') (hK : wpList P ops Q rest (a.put o.dst undef) w') : wpList P ops Q (o :: rest) a w := by
  refine wpList_plain hg fun K' hK' => ?_
  unfold Oper.wp
  simp [execOp, hop, hm, hx, hv, hrun, Result.andThen]
  exact hK' _ _ hK
theorem wpList_lookup_run (hg : o.guard = none) (m x : Operand) (t : TypeId) (ok : Bool) (hop : o.op = Op.lookup t m x ok) (mv xv r : Value) (hm : a.eval m = mv) (hx : a.eval x = xv) (w' : World)
    (hrun : (Instr.lookup t mv xv ok).run P w = .ok r w') (hK : wpList P ops Q rest (a.put o.dst r) w') : wpList P ops Q (o :: rest) a w := by
  refine wpList_plain hg fun K' hK' => ?_
  unfold Oper.wp
  simp [execOp, hop, hm, hx, hrun, Result.andThen]
  exact hK' _ _ hK
end
end Go.Proofs.Ytljcgcllhcdleaa
/- append onto a row of the call's own; the source reads as a list. -/
namespace Go.Proofs.Ytljcgcllhcdleaa
open Go.RowKit
section
variable {P : Program} {w : World} {B size : Nat}
theorem SL.of_own {base : Nat} {e : TypeId} {v : Value} {n : Nat} {xs : List Value} (h : w.ownsRow base e size v n xs) : SL w w.heap.size size v n xs := by
  refine ⟨h.1, ?_⟩
  rcases h.2 with ⟨rfl, rfl⟩ | ⟨g, cap, cur, rfl, _, hw, hnc, hm, hs, ht⟩
  · exact ⟨none, 0, rfl, Nat.le_refl _, by simp [maxLen], fun _ => rfl, fun hn => absurd hn (by omega)⟩
  · refine ⟨_, cap, rfl, hnc, hm, (fun he => by cases he), fun hn => ⟨g, 0, rfl, ?_, fun j u hu => ?_⟩⟩
    · rcases Nat.lt_or_ge g w.heap.size with h1 | h1
      · exact h1
      · rw [Array.getElem?_eq_none h1] at hw; cases hw
    · rw [← ht] at hu
      have hj : j < n * size := by
        rcases Nat.lt_or_ge j (n * size) with h1 | h1
        · exact h1
        · rw [List.getElem?_eq_none (by rw [List.length_take]; omega)] at hu; cases hu
      rw [List.getElem?_take_of_lt hj] at hu
      simp [World.cell?, hw]
      simpa using hu

theorem from_own {base : Nat} {e : TypeId} {v : Value} {n : Nat} {xs : List Value} (h : w.ownsRow base e size v n xs) : from_ base v := by
  rcases h.2 with ⟨rfl, rfl⟩ | ⟨g, cap, cur, rfl, hb, _⟩
  · exact from_nil _ _ _
  · exact from_some _ _ hb

theorem run_append_SL (base : Nat) (t ty e : TypeId) (i : TypeInfo) (z : Value) (bytes : Nat) (ht : P.underlying t = some (.slice e)) (hi : P.info? e = some i) (hz : i.zero = some z)
    (hsize : i.size = size) (hby : i.bytes = bytes) (hzs : z.cells.size = size) (hsz : 0 < size)
    {v : Value} {n : Nat} {xs : List Value} (hown : w.ownsRow base e size v n xs)
    {src : Value} {m : Nat} {news : List Value} (hr : SL w B size src m news) (h1 : ∀ u ∈ news, u.oneCell' = true)
    (h63 : n + m ≤ maxLen) (hbytes : (n + m) * bytes ≤ 140737488355328) (hbase : base ≤ w.heap.size) :
    ∃ v' w', (Builtin.append_ #[t, t] ty #[v, src]).run P w = .ok v' w' ∧ w'.ownsRow base e size v' (n + m) (xs ++ news) ∧ w.grownBy w' v.ownBlock ∧
      (v'.ownBlock = v.ownBlock ∨ v'.ownBlock = some w.heap.size) := by
  obtain ⟨hl, A, c, rfl, hc1, hc2, hc3, hc4⟩ := hr
  rcases A with _ | ad
  · have hm : m = 0 := by
      rcases Nat.eq_zero_or_pos m with h0 | h0
      · exact h0
      · obtain ⟨b, o, h, _⟩ := hc4 h0
        cases h
    subst hm
    have hn : news = [] := List.eq_nil_of_length_eq_zero (by simpa using hl)
    subst hn
    have hrun : (Builtin.append_ #[t, t] ty #[v, .slice none 0 c]).run P w = .ok v w := by
      rcases hown.2 with ⟨rfl, rfl⟩ | ⟨g, cap, cur, rfl, _, _, hnc, _⟩
      · simp [Builtin.append_, run_underlying ht, sizeOf, typeInfo, hi, Builtin.lenOf, Builtin.firstCells]
      · simp [Builtin.append_, run_underlying ht, sizeOf, typeInfo, hi, Builtin.lenOf, Builtin.firstCells, hnc, storeCells]
    exact ⟨v, w, hrun, by simpa using hown, World.grownBy.refl w _, .inl rfl⟩
  · have hcells : ∀ j u, news[j]? = some u → w.cell? (ad.add j) = some u := by
      intro j u hu
      rcases Nat.eq_zero_or_pos m with h0 | h0
      · subst h0
        have hn : news = [] := List.eq_nil_of_length_eq_zero (by simpa using hl)
        subst hn
        simp at hu
      · obtain ⟨b, o, h, _, hc⟩ := hc4 h0
        injection h with h
        subst h
        have := hc j u hu
        unfold Addr.add
        split
        · rename_i hj
          subst hj
          exact this
        · exact this
    obtain ⟨v', w', hrun, h2, h3, _, h5⟩ := run_append_own_at (P := P) w base t ty e i z size bytes ht hi hz hsize hby hzs hsz v n xs hown ad m c news hl hcells h1 h63 hbytes hbase
    exact ⟨v', w', hrun, h2, h3, h5⟩

theorem wp_append_SL {o : Oper} {a : Act} {K : Act → World → Prop} {Q : Exit → Act → World → Prop} (s x : Operand) (t : TypeId)
    (ho : o.op = .call { callee := .builtin .append, args := #[s, x], argTypes := #[t, t] })
    (base : Nat) (e : TypeId) (i : TypeInfo) (z : Value) (bytes : Nat) (ht : P.underlying t = some (.slice e)) (hi : P.info? e = some i) (hz : i.zero = some z)
    (hsize : i.size = size) (hby : i.bytes = bytes) (hzs : z.cells.size = size) (hsz : 0 < size)
    {v : Value} {n : Nat} {xs : List Value} (hs : a.eval s = v) (hown : w.ownsRow base e size v n xs)
    {src : Value} {m : Nat} {news : List Value} (hx : a.eval x = src) (hr : SL w B size src m news) (h1 : ∀ u ∈ news, u.oneCell' = true)
    (h63 : n + m ≤ maxLen) (hbytes : (n + m) * bytes ≤ 140737488355328) (hbase : base ≤ w.heap.size)
    (h : ∀ v' w', w'.ownsRow base e size v' (n + m) (xs ++ news) → w.grownBy w' v.ownBlock → (v'.ownBlock = v.ownBlock ∨ v'.ownBlock = some w.heap.size) → K (a.put o.dst v') w') : o.wp P a w K Q := by
  obtain ⟨v', w', hrun, h2, h3, h4⟩ := run_append_SL (P := P) base t o.type e i z bytes ht hi hz hsize hby hzs hsz hown hr h1 h63 hbytes hbase
  unfold Oper.wp execOp
  simp only [ho, resolve, invoke, builtin, Sem.run_bind, Sem.run_pure, Result.andThen_ok, List.map_toArray, List.map_cons, List.map_nil, hs, hx, hrun]
  exact h v' w' h2 h3 h4
theorem wpList_append_SL {ops : Array Oper} {rest : List Oper} {o : Oper} {a : Act} {Q : Exit → Act → World → Prop} (hgd : o.guard = none) (s x : Operand) (t : TypeId)
    (ho : o.op = .call { callee := .builtin .append, args := #[s, x], argTypes := #[t, t] })
    (base : Nat) (e : TypeId) (i : TypeInfo) (z : Value) (bytes : Nat) (ht : P.underlying t = some (.slice e)) (hi : P.info? e = some i) (hz : i.zero = some z)
    (hsize : i.size = size) (hby : i.bytes = bytes) (hzs : z.cells.size = size) (hsz : 0 < size)
    {v : Value} {n : Nat} {xs : List Value} (hs : a.eval s = v) (hown : w.ownsRow base e size v n xs)
    {src : Value} {m : Nat} {news : List Value} (hx : a.eval x = src) (hr : SL w B size src m news) (h1 : ∀ u ∈ news, u.oneCell' = true)
    (h63 : n + m ≤ maxLen) (hbytes : (n + m) * bytes ≤ 140737488355328) (hbase : base ≤ w.heap.size)
    (h : ∀ v' w', w'.ownsRow base e size v' (n + m) (xs ++ news) → w.grownBy w' v.ownBlock → (v'.ownBlock = v.ownBlock ∨ v'.ownBlock = some w.heap.size) → wpList P ops Q rest (a.put o.dst v') w') : wpList P ops Q (o :: rest) a w :=
  wpList_plain hgd fun _ hK => wp_append_SL s x t ho base e i z bytes ht hi hz hsize hby hzs hsz hs hown hx hr h1 h63 hbytes hbase fun v' w' h2 h3 h4 => hK _ _ (h v' w' h2 h3 h4)
end
end Go.Proofs.Ytljcgcllhcdleaa
