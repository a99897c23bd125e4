import Derived.Test.YtpbflgemhcaooaaDoorPt8
import Derived.Test.YtpbflgemhcaooaaDoorPt1
import Derived.Maps.AppendAt
import Derived.Laws.OwnMore
import Derived.Deep.AppendLies
import Derived.OwnWalk
import Derived.Test.YtpbflgemhcaooaaDoorPt11
import Derived.Test.YtpbflgemhcaooaaDoorPt3
import Derived.Test.YtpbflgemhcaooaaDoorPt9
/- An element of a slice that reads as a list. -/
namespace Go.Proofs.YtpbflgemhcaooaaDoor
open Go.RowKit
theorem flatMap_at {α β : Type} {size : Nat} (f : α → List β) (hf : ∀ a, (f a).length = size) : ∀ (l : List α) (k : Nat) (a : α) (j : Nat) (u : β), l[k]? = some a → (f a)[j]? = some u → (l.flatMap f)[k * size + j]? = some u
  | [], k, a, j, u, h, _ => by simp at h
  | x :: r, 0, a, j, u, h, hu => by
    simp at h
    subst h
    have hl := hf x
    simp only [List.flatMap_cons, Nat.zero_mul, Nat.zero_add]
    have hj : j < (f x).length := by
      rcases Nat.lt_or_ge j (f x).length with h1 | h1
      · exact h1
      · rw [List.getElem?_eq_none h1] at hu; cases hu
    rw [List.getElem?_append_left hj]
    exact hu
  | x :: r, k + 1, a, j, u, h, hu => by
    have ih := flatMap_at f hf r k a j u (by simpa using h) hu
    have hl := hf x
    simp only [List.flatMap_cons]
    rw [List.getElem?_append_right (by rw [hl, Nat.succ_mul]; omega)]
    have : (k + 1) * size + j - (f x).length = k * size + j := by rw [hl, Nat.succ_mul]; omega
    rw [this]
    exact ih
theorem SL.form {w : World} {B size n : Nat} {v : Value} {xs : List Value} (h : SL w B size v n xs) : ∃ (A : Option Addr) (c : Nat), v = .slice A n c ∧ n ≤ c ∧ c ≤ maxLen := by
  obtain ⟨_, A, c, rfl, h1, h2, _⟩ := h
  exact ⟨A, c, rfl, h1, h2⟩
/-- the slice's row, where there is an element -/
theorem SL.row {w : World} {B size n : Nat} {v : Value} {xs : List Value} (h : SL w B size v n xs) (hn : 0 < n) :
    ∃ b o c, v = .slice (some ⟨b, o, none⟩) n c ∧ b < B ∧ n ≤ c ∧ c ≤ maxLen ∧ ∀ j u, xs[j]? = some u → w.cell? ⟨b, o + j, none⟩ = some u := by
  obtain ⟨_, A, c, rfl, h1, h2, _, h4⟩ := h
  obtain ⟨b, o, rfl, hb, hc⟩ := h4 hn
  exact ⟨b, o, c, rfl, hb, h1, h2, hc⟩
theorem RInts.at_ {w : World} {B : Nat} {v : Value} {l : List Int} (h : RInts w B v l) {k : Nat} {x : Int} (hk : l[k]? = some x) :
    ∃ b o c, v = .slice (some ⟨b, o, none⟩) l.length c ∧ b < B ∧ k < l.length ∧ l.length ≤ c ∧ c ≤ maxLen ∧ w.cell? ⟨b, o + k, none⟩ = some (.int .i64 x) := by
  have hlt : k < l.length := (List.getElem?_eq_some_iff.1 hk).1
  obtain ⟨b, o, c, e, hb, h1, h2, hc⟩ := SL.row h (by omega)
  exact ⟨b, o, c, e, hb, hlt, h1, h2, hc k _ (by simp [hk])⟩
theorem RBools.at_ {w : World} {B : Nat} {v : Value} {l : List Bool} (h : RBools w B v l) {k : Nat} {x : Bool} (hk : l[k]? = some x) :
    ∃ b o c, v = .slice (some ⟨b, o, none⟩) l.length c ∧ b < B ∧ k < l.length ∧ l.length ≤ c ∧ c ≤ maxLen ∧ w.cell? ⟨b, o + k, none⟩ = some (.bool x) := by
  have hlt : k < l.length := (List.getElem?_eq_some_iff.1 hk).1
  obtain ⟨b, o, c, e, hb, h1, h2, hc⟩ := SL.row h (by omega)
  exact ⟨b, o, c, e, hb, hlt, h1, h2, hc k _ (by simp [hk])⟩
theorem RCode.at_ {w : World} {B : Nat} {v : Value} {l : List Ev.Instr} (h : RCode w B v l) {k : Nat} {i : Ev.Instr} (hk : l[k]? = some i) :
    ∃ b o c, v = .slice (some ⟨b, o, none⟩) l.length c ∧ b < B ∧ k < l.length ∧ l.length ≤ c ∧ c ≤ maxLen ∧ w.cell? ⟨b, o + k * 6, none⟩ = some (.int .i64 i.op) ∧ w.cell? ⟨b, o + k * 6 + 1, none⟩ = some (.int .i64 i.d) ∧
      w.cell? ⟨b, o + k * 6 + 2, none⟩ = some (.int .i64 i.a) ∧ w.cell? ⟨b, o + k * 6 + 3, none⟩ = some (.int .i64 i.b) ∧ w.cell? ⟨b, o + k * 6 + 4, none⟩ = some (.int .i64 i.c) ∧ w.cell? ⟨b, o + k * 6 + 5, none⟩ = some (.int .i64 i.imm) := by
  have hlt : k < l.length := (List.getElem?_eq_some_iff.1 hk).1
  obtain ⟨b, o, c, e, hb, h1, h2, hc⟩ := SL.row h (by omega)
  have hj := fun j u (hu : (cellsI i)[j]? = some u) => hc (k * 6 + j) u (flatMap_at cellsI (fun _ => rfl) l k i j u hk hu)
  simp only [← Nat.add_assoc] at hj
  exact ⟨b, o, c, e, hb, hlt, h1, h2, hj 0 _ rfl, hj 1 _ rfl, hj 2 _ rfl, hj 3 _ rfl, hj 4 _ rfl, hj 5 _ rfl⟩
theorem RVars.at_ {w : World} {B : Nat} {v : Value} {l : List Ev.Vr} (h : RVars w B v l) {k : Nat} {i : Ev.Vr} (hk : l[k]? = some i) :
    ∃ b o c, v = .slice (some ⟨b, o, none⟩) l.length c ∧ b < B ∧ k < l.length ∧ l.length ≤ c ∧ c ≤ maxLen ∧ w.cell? ⟨b, o + k * 3, none⟩ = some (.string ⟨i.name.toArray⟩) ∧ w.cell? ⟨b, o + k * 3 + 1, none⟩ = some (.bool i.secret) ∧
      w.cell? ⟨b, o + k * 3 + 2, none⟩ = some (.int .i64 i.size) := by
  have hlt : k < l.length := (List.getElem?_eq_some_iff.1 hk).1
  obtain ⟨b, o, c, e, hb, h1, h2, hc⟩ := SL.row h (by omega)
  have hj := fun j u (hu : (cellsV i)[j]? = some u) => hc (k * 3 + j) u (flatMap_at cellsV (fun _ => rfl) l k i j u hk hu)
  simp only [← Nat.add_assoc] at hj
  exact ⟨b, o, c, e, hb, hlt, h1, h2, hj 0 _ rfl, hj 1 _ rfl, hj 2 _ rfl⟩
end Go.Proofs.YtpbflgemhcaooaaDoor
/- The row of a slice, its elements by number. -/
namespace Go.Proofs.YtpbflgemhcaooaaDoor
open Go.RowKit
theorem RBools.row {w : World} {B : Nat} {v : Value} {l : List Bool} (h : RBools w B v l) (hn : 0 < l.length) :
    ∃ b o c, v = .slice (some ⟨b, o, none⟩) l.length c ∧ b < B ∧ l.length ≤ c ∧ c ≤ maxLen ∧ ∀ k : Nat, k < l.length → w.cell? ⟨b, o + k, none⟩ = some (.bool (Ev.sec l k)) := by
  obtain ⟨b, o, c, e, hb, h1, h2, hc⟩ := SL.row h hn
  exact ⟨b, o, c, e, hb, h1, h2, fun k hk => hc k _ (by simp [Ev.sec, hk])⟩
theorem RInts.row {w : World} {B : Nat} {v : Value} {l : List Int} (h : RInts w B v l) (hn : 0 < l.length) :
    ∃ b o c, v = .slice (some ⟨b, o, none⟩) l.length c ∧ b < B ∧ l.length ≤ c ∧ c ≤ maxLen ∧ ∀ k : Nat, k < l.length → w.cell? ⟨b, o + k, none⟩ = some (.int .i64 (Ev.val l k)) := by
  obtain ⟨b, o, c, e, hb, h1, h2, hc⟩ := SL.row h hn
  exact ⟨b, o, c, e, hb, h1, h2, fun k hk => hc k _ (by simp [Ev.val, hk])⟩
theorem RVars.row {w : World} {B : Nat} {v : Value} {l : List Ev.Vr} (h : RVars w B v l) (hn : 0 < l.length) :
    ∃ b o c, v = .slice (some ⟨b, o, none⟩) l.length c ∧ b < B ∧ l.length ≤ c ∧ c ≤ maxLen ∧ ∀ k : Nat, k < l.length →
      w.cell? ⟨b, o + k * 3, none⟩ = some (.string ⟨(l.getD k default).name.toArray⟩) ∧ w.cell? ⟨b, o + k * 3 + 1, none⟩ = some (.bool (Ev.arrSec l k)) ∧ w.cell? ⟨b, o + k * 3 + 2, none⟩ = some (.int .i64 (l.getD k default).size) := by
  obtain ⟨b, o, c, e, hb, h1, h2, hc⟩ := SL.row h hn
  refine ⟨b, o, c, e, hb, h1, h2, fun k hk => ?_⟩
  have hx : l[k]? = some (l.getD k default) := by simp [hk]
  have hj := fun j u (hu : (cellsV (l.getD k default))[j]? = some u) => hc (k * 3 + j) u (flatMap_at cellsV (fun _ => rfl) l k _ j u hx hu)
  simp only [← Nat.add_assoc] at hj
  exact ⟨hj 0 _ rfl, hj 1 _ (by simp [cellsV, Ev.arrSec]), hj 2 _ rfl⟩
theorem RCode.row {w : World} {B : Nat} {v : Value} {l : List Ev.Instr} (h : RCode w B v l) (hn : 0 < l.length) :
    ∃ b o c, v = .slice (some ⟨b, o, none⟩) l.length c ∧ b < B ∧ l.length ≤ c ∧ c ≤ maxLen ∧ ∀ k i, l[k]? = some i →
      w.cell? ⟨b, o + k * 6, none⟩ = some (.int .i64 i.op) ∧ w.cell? ⟨b, o + k * 6 + 1, none⟩ = some (.int .i64 i.d) ∧
      w.cell? ⟨b, o + k * 6 + 2, none⟩ = some (.int .i64 i.a) ∧ w.cell? ⟨b, o + k * 6 + 3, none⟩ = some (.int .i64 i.b) ∧ w.cell? ⟨b, o + k * 6 + 4, none⟩ = some (.int .i64 i.c) ∧ w.cell? ⟨b, o + k * 6 + 5, none⟩ = some (.int .i64 i.imm) := by
  obtain ⟨b, o, c, e, hb, h1, h2, hc⟩ := SL.row h hn
  refine ⟨b, o, c, e, hb, h1, h2, fun k i hk => ?_⟩
  have hj := fun j u (hu : (cellsI i)[j]? = some u) => hc (k * 6 + j) u (flatMap_at cellsI (fun _ => rfl) l k i j u hk hu)
  simp only [← Nat.add_assoc] at hj
  exact ⟨hj 0 _ rfl, hj 1 _ rfl, hj 2 _ rfl, hj 3 _ rfl, hj 4 _ rfl, hj 5 _ rfl⟩
end Go.Proofs.YtpbflgemhcaooaaDoor
/- Slices whose row lies from some block on. -/
namespace Go.Proofs.YtpbflgemhcaooaaDoor
open Go.RowKit
/-- the slice's row, if there is one, lies in a block from lo on -/
def from_ (lo : Nat) (v : Value) : Prop := ∀ a n c, v = .slice (some a) n c → lo ≤ a.block
theorem from_nil (lo n c : Nat) : from_ lo (.slice none n c) := fun a n c h => by cases h
theorem from_some {lo : Nat} {a : Addr} (n c : Nat) (h : lo ≤ a.block) : from_ lo (.slice (some a) n c) := fun a' n' c' e => by cases e; exact h
theorem from_.less {lo lo' : Nat} {v : Value} (h : from_ lo v) (hl : lo' ≤ lo) : from_ lo' v := fun a n c e => Nat.le_trans hl (h a n c e)
/-- a store ahead of it leaves it -/
theorem SL.aside {w : World} {B size n lo : Nat} {v : Value} {xs : List Value} (h : SL w B size v n xs) (hf : from_ lo v) (k o : Nat) (u : Value) (hk : k < lo) : SL (w.setCell ⟨k, o, none⟩ u) B size v n xs := by
  obtain ⟨h1, A, c, rfl, h3, h4, h5, h6⟩ := h
  refine ⟨h1, A, c, rfl, h3, h4, h5, fun hn => ?_⟩
  obtain ⟨b, o', rfl, hlt, hc⟩ := h6 hn
  have hb := hf _ _ _ rfl
  refine ⟨b, o', rfl, hlt, fun j u' hu => ?_⟩
  have hne : k ≠ b := by simp only at hb; omega
  rw [← hc j u' hu]
  unfold World.setCell World.cell?
  simp only [Array.getElem?_modify, hne, if_false]

end Go.Proofs.YtpbflgemhcaooaaDoor
/- append onto a row of the call's own; the source reads as a list. -/
namespace Go.Proofs.YtpbflgemhcaooaaDoor
open Go.RowKit
section
variable {P : Program} {w : World} {B size : Nat}
theorem SL.of_own {base : Nat} {e : TypeId} {v : Value} {n : Nat} {xs : List Value} (h : w.ownsRow base e size v n xs) : SL w w.heap.size size v n xs := by
  refine ⟨h.1, ?_⟩
  rcases h.2 with ⟨rfl, rfl⟩ | ⟨g, cap, cur, rfl, _, hw, hnc, hm, hs, ht⟩
  · exact ⟨none, 0, rfl, Nat.le_refl _, by simp [maxLen], fun _ => rfl, fun hn => absurd hn (by omega)⟩
  · refine ⟨_, cap, rfl, hnc, hm, (fun he => by cases he), fun hn => ⟨g, 0, rfl, ?_, fun j u hu => ?_⟩⟩
    · rcases Nat.lt_or_ge g w.heap.size with h1 | h1
      · exact h1
      · rw [Array.getElem?_eq_none h1] at hw; cases hw
    · rw [← ht] at hu
      have hj : j < n * size := by
        rcases Nat.lt_or_ge j (n * size) with h1 | h1
        · exact h1
        · rw [List.getElem?_eq_none (by rw [List.length_take]; omega)] at hu; cases hu
      rw [List.getElem?_take_of_lt hj] at hu
      simp [World.cell?, hw]
      simpa using hu

theorem from_own {base : Nat} {e : TypeId} {v : Value} {n : Nat} {xs : List Value} (h : w.ownsRow base e size v n xs) : from_ base v := by
  rcases h.2 with ⟨rfl, rfl⟩ | ⟨g, cap, cur, rfl, hb, _⟩
  · exact from_nil _ _ _
  · exact from_some _ _ hb

theorem run_append_SL (base : Nat) (t ty e : TypeId) (i : TypeInfo) (z : Value) (bytes : Nat) (ht : P.underlying t = some (.slice e)) (hi : P.info? e = some i) (hz : i.zero = some z)
    (hsize : i.size = size) (hby : i.bytes = bytes) (hzs : z.cells.size = size) (hsz : 0 < size)
    {v : Value} {n : Nat} {xs : List Value} (hown : w.ownsRow base e size v n xs)
    {src : Value} {m : Nat} {news : List Value} (hr : SL w B size src m news) (h1 : ∀ u ∈ news, u.oneCell' = true)
    (h63 : n + m ≤ maxLen) (hbytes : (n + m) * bytes ≤ 140737488355328) (hbase : base ≤ w.heap.size) :
    ∃ v' w', (Builtin.append_ #[t, t] ty #[v, src]).run P w = .ok v' w' ∧ w'.ownsRow base e size v' (n + m) (xs ++ news) ∧ w.grownBy w' v.ownBlock ∧
      (v'.ownBlock = v.ownBlock ∨ v'.ownBlock = some w.heap.size) := by
  obtain ⟨hl, A, c, rfl, hc1, hc2, hc3, hc4⟩ := hr
  rcases A with _ | ad
  · have hm : m = 0 := by
      rcases Nat.eq_zero_or_pos m with h0 | h0
      · exact h0
      · obtain ⟨b, o, h, _⟩ := hc4 h0
        cases h
    subst hm
    have hn : news = [] := List.eq_nil_of_length_eq_zero (by simpa using hl)
    subst hn
    have hrun : (Builtin.append_ #[t, t] ty #[v, .slice none 0 c]).run P w = .ok v w := by
      rcases hown.2 with ⟨rfl, rfl⟩ | ⟨g, cap, cur, rfl, _, _, hnc, _⟩
      · simp [Builtin.append_, run_underlying ht, sizeOf, typeInfo, hi, Builtin.lenOf, Builtin.firstCells]
      · simp [Builtin.append_, run_underlying ht, sizeOf, typeInfo, hi, Builtin.lenOf, Builtin.firstCells, hnc, storeCells]
    exact ⟨v, w, hrun, by simpa using hown, World.grownBy.refl w _, .inl rfl⟩
  · have hcells : ∀ j u, news[j]? = some u → w.cell? (ad.add j) = some u := by
      intro j u hu
      rcases Nat.eq_zero_or_pos m with h0 | h0
      · subst h0
        have hn : news = [] := List.eq_nil_of_length_eq_zero (by simpa using hl)
        subst hn
        simp at hu
      · obtain ⟨b, o, h, _, hc⟩ := hc4 h0
        injection h with h
        subst h
        have := hc j u hu
        unfold Addr.add
        split
        · rename_i hj
          subst hj
          exact this
        · exact this
    obtain ⟨v', w', hrun, h2, h3, _, h5⟩ := run_append_own_at (P := P) w base t ty e i z size bytes ht hi hz hsize hby hzs hsz v n xs hown ad m c news hl hcells h1 h63 hbytes hbase
    exact ⟨v', w', hrun, h2, h3, h5⟩

theorem wp_append_SL {o : Oper} {a : Act} {K : Act → World → Prop} {Q : Exit → Act → World → Prop} (s x : Operand) (t : TypeId)
    (ho : o.op = .call { callee := .builtin .append, args := #[s, x], argTypes := #[t, t] })
    (base : Nat) (e : TypeId) (i : TypeInfo) (z : Value) (bytes : Nat) (ht : P.underlying t = some (.slice e)) (hi : P.info? e = some i) (hz : i.zero = some z)
    (hsize : i.size = size) (hby : i.bytes = bytes) (hzs : z.cells.size = size) (hsz : 0 < size)
    {v : Value} {n : Nat} {xs : List Value} (hs : a.eval s = v) (hown : w.ownsRow base e size v n xs)
    {src : Value} {m : Nat} {news : List Value} (hx : a.eval x = src) (hr : SL w B size src m news) (h1 : ∀ u ∈ news, u.oneCell' = true)
    (h63 : n + m ≤ maxLen) (hbytes : (n + m) * bytes ≤ 140737488355328) (hbase : base ≤ w.heap.size)
    (h : ∀ v' w', w'.ownsRow base e size v' (n + m) (xs ++ news) → w.grownBy w' v.ownBlock → (v'.ownBlock = v.ownBlock ∨ v'.ownBlock = some w.heap.size) → K (a.put o.dst v') w') : o.wp P a w K Q := by
  obtain ⟨v', w', hrun, h2, h3, h4⟩ := run_append_SL (P := P) base t o.type e i z bytes ht hi hz hsize hby hzs hsz hown hr h1 h63 hbytes hbase
  unfold Oper.wp execOp
  simp only [ho, resolve, invoke, builtin, Sem.run_bind, Sem.run_pure, Result.andThen_ok, List.map_toArray, List.map_cons, List.map_nil, hs, hx, hrun]
  exact h v' w' h2 h3 h4
theorem wpList_append_SL {ops : Array Oper} {rest : List Oper} {o : Oper} {a : Act} {Q : Exit → Act → World → Prop} (hgd : o.guard = none) (s x : Operand) (t : TypeId)
    (ho : o.op = .call { callee := .builtin .append, args := #[s, x], argTypes := #[t, t] })
    (base : Nat) (e : TypeId) (i : TypeInfo) (z : Value) (bytes : Nat) (ht : P.underlying t = some (.slice e)) (hi : P.info? e = some i) (hz : i.zero = some z)
    (hsize : i.size = size) (hby : i.bytes = bytes) (hzs : z.cells.size = size) (hsz : 0 < size)
    {v : Value} {n : Nat} {xs : List Value} (hs : a.eval s = v) (hown : w.ownsRow base e size v n xs)
    {src : Value} {m : Nat} {news : List Value} (hx : a.eval x = src) (hr : SL w B size src m news) (h1 : ∀ u ∈ news, u.oneCell' = true)
    (h63 : n + m ≤ maxLen) (hbytes : (n + m) * bytes ≤ 140737488355328) (hbase : base ≤ w.heap.size)
    (h : ∀ v' w', w'.ownsRow base e size v' (n + m) (xs ++ news) → w.grownBy w' v.ownBlock → (v'.ownBlock = v.ownBlock ∨ v'.ownBlock = some w.heap.size) → wpList P ops Q rest (a.put o.dst v') w') : wpList P ops Q (o :: rest) a w :=
  wpList_plain hgd fun _ hK => wp_append_SL s x t ho base e i z bytes ht hi hz hsize hby hzs hsz hs hown hx hr h1 h63 hbytes hbase fun v' w' h2 h3 h4 => hK _ _ (h v' w' h2 h3 h4)
end
end Go.Proofs.YtpbflgemhcaooaaDoor
/- A row of one's own stays, when the heap grows. -/
namespace Go.Proofs.YtpbflgemhcaooaaDoor
open Go.RowKit
set_option linter.unusedSimpArgs false
set_option linter.unusedVariables false
theorem grown_of_below {w w' : World} (h : Below w.heap.size w w') (row : Option Nat) : w.grownBy w' row := ⟨h.os, h.tape, h.output, h.size, fun k hk _ => h.block k hk⟩
theorem owns_below {w w' : World} {base size n : Nat} {e : TypeId} {v : Value} {xs : List Value} (h : w.ownsRow base e size v n xs) (hb : Below w.heap.size w w') : w'.ownsRow base e size v n xs :=
  h.kept (grown_of_below hb none) (by cases v.ownBlock <;> simp)
end Go.Proofs.YtpbflgemhcaooaaDoor
/- What is known of heavy operations' results. -/
namespace Go.Proofs.YtpbflgemhcaooaaDoor
open Go.RowKit
set_option linter.unusedVariables false
/-- a row of one's own -/
def Hv.own (base : Nat) (e : TypeId) (size n : Nat) (xs : List Value) : Hv where
  R v w := w.ownsRow base e size v n xs
  ok v := ∃ A c, v = .slice A n c
  imp v w h := by obtain ⟨A, c, e, _⟩ := SL.form (SL.of_own h); exact ⟨A, c, e⟩
  dum := ⟨_, none, 0, rfl⟩
  stay v w w' hb h := owns_below h hb
/-- one value -/
def Hv.is (c : Value) : Hv where
  R v _ := v = c
  ok v := v = c
  imp v w h := h
  dum := ⟨c, rfl⟩
  stay v w w' _ h := h
/-- a new slice, n elements -/
def Hv.lit (cs : Array Value) (t : TypeId) (n : Nat) : Hv where
  R v w := ∃ g, v = .slice (some ⟨g, 0, none⟩) n n ∧ w.heap[g]? = some (.cells cs t (0, 0))
  ok v := ∃ g, v = .slice (some ⟨g, 0, none⟩) n n
  imp v w h := by obtain ⟨g, e, _⟩ := h; exact ⟨g, e⟩
  dum := ⟨_, 0, rfl⟩
  stay v w w' hb h := by obtain ⟨g, e, hg⟩ := h; exact ⟨g, e, (hb.block g (Array.getElem?_eq_some_iff.1 hg).1).trans hg⟩
/-- a new cell block -/
def Hv.box (cs : Array Value) (t : TypeId) : Hv where
  R v w := ∃ g, v = .pointer (some ⟨g, 0, none⟩) ∧ w.heap[g]? = some (.cells cs t (0, 0))
  ok v := ∃ g, v = .pointer (some ⟨g, 0, none⟩)
  imp v w h := by obtain ⟨g, e, _⟩ := h; exact ⟨g, e⟩
  dum := ⟨_, 0, rfl⟩
  stay v w w' hb h := by obtain ⟨g, e, hg⟩ := h; exact ⟨g, e, (hb.block g (Array.getElem?_eq_some_iff.1 hg).1).trans hg⟩
/-- a slice that reads so -/
def Hv.sl (size n : Nat) (xs : List Value) : Hv where
  R v w := SL w w.heap.size size v n xs
  ok v := ∃ A c, v = .slice A n c
  imp v w h := by obtain ⟨A, c, e, _⟩ := SL.form h; exact ⟨A, c, e⟩
  dum := ⟨_, none, 0, rfl⟩
  stay v w w' hb h := SL.at_ h hb (Nat.le_refl _)
theorem lit_heap {w : World} {A n : Nat} {o : Obj} (h : ∃ g, Value.slice (some ⟨A, 0, none⟩) n n = .slice (some ⟨g, 0, none⟩) n n ∧ w.heap[g]? = some o) : w.heap[A]? = some o := by
  obtain ⟨g, e, hg⟩ := h
  injection e with e
  injection e with e
  injection e with e
  subst e
  exact hg
theorem box_heap {w : World} {A : Nat} {o : Obj} (h : ∃ g, Value.pointer (some ⟨A, 0, none⟩) = .pointer (some ⟨g, 0, none⟩) ∧ w.heap[g]? = some o) : w.heap[A]? = some o := by
  obtain ⟨g, e, hg⟩ := h
  injection e with e
  injection e with e
  injection e with e
  subst e
  exact hg
theorem cell_of_block {w : World} {g : Nat} {cs : Array Value} {t : TypeId} (h : w.heap[g]? = some (.cells cs t (0, 0))) (j : Nat) : w.cell? ⟨g, j, none⟩ = cs[j]? := by
  unfold World.cell?
  rw [h]
  simp
theorem cells_of_block {w : World} {g : Nat} {cs : Array Value} {t : TypeId} (h : w.heap[g]? = some (.cells cs t (0, 0))) : ∀ j u, cs.toList[j]? = some u → w.cell? ((⟨g, 0, none⟩ : Addr).add j) = some u := by
  intro j u hj
  rw [show (⟨g, 0, none⟩ : Addr).add j = ⟨g, j, none⟩ by unfold Addr.add; split <;> simp_all, cell_of_block h]
  simpa using hj
end Go.Proofs.YtpbflgemhcaooaaDoor
/- The document's reader in memory; a word. -/
namespace Ev
open Go
theorem skip_head {c : UInt8} {s : List UInt8} (h : blank c = true) : skipB (c :: s) = skipB s := by
  conv => lhs; unfold skipB
  exact if_pos h
theorem skip_stop {c : UInt8} {s : List UInt8} (h : ¬ blank c = true) : skipB (c :: s) = c :: s := by
  conv => lhs; unfold skipB
  exact if_neg h
theorem skip_drop {s : List UInt8} {c : UInt8} (hc : s[0]? = some c) (h : c = 32 ∨ c = 10) : skipB (s.drop 1) = skipB s := by
  rcases s with _ | ⟨x, s⟩
  · simp at hc
  · simp at hc
    subst hc
    rw [skip_head (by rcases h with rfl | rfl <;> rfl)]
    rfl
theorem skip_none {s : List UInt8} {c : UInt8} (hc : s[0]? = some c) (h1 : c ≠ 32) (h2 : c ≠ 10) : skipB s = s := by
  rcases s with _ | ⟨x, s⟩
  · simp at hc
  · simp at hc
    subst hc
    exact skip_stop (by unfold blank; simp [h1, h2])
theorem sepc_yes {c : UInt8} (h : sepc c = true) : c = 32 ∨ c = 10 ∨ c = 40 ∨ c = 41 := by
  unfold sepc at h
  simp only [Bool.or_eq_true, beq_iff_eq] at h
  rcases h with ((h | h) | h) | h
  · exact .inl h
  · exact .inr (.inl h)
  · exact .inr (.inr (.inl h))
  · exact .inr (.inr (.inr h))
theorem run_at : ∀ (s : List UInt8) (k : Nat) (c : UInt8), k < runLen s → s[k]? = some c → sepc c = false
  | [], k, c, h, hc => by simp at hc
  | x :: s, k, c, h, hc => by
    unfold runLen at h
    by_cases hx : sepc x = true
    · rw [if_pos hx] at h; omega
    · rw [if_neg hx] at h
      rcases k with _ | k
      · simp at hc; subst hc; simpa using hx
      · exact run_at s k c (by omega) (by simpa using hc)
theorem run_stop : ∀ (s : List UInt8) (c : UInt8), s[runLen s]? = some c → sepc c = true
  | [], c, hc => by simp [runLen] at hc
  | x :: s, c, hc => by
    unfold runLen at hc
    by_cases hx : sepc x = true
    · rw [if_pos hx] at hc; simp at hc; subst hc; exact hx
    · rw [if_neg hx] at hc
      exact run_stop s c (by simpa using hc)
theorem sepc_not {c : UInt8} (h : sepc c = false) : c ≠ 32 ∧ c ≠ 10 ∧ c ≠ 40 ∧ c ≠ 41 := by
  unfold sepc at h
  simp only [Bool.or_eq_false_iff, beq_eq_false_iff_ne] at h
  exact ⟨h.1.1.1, h.1.1.2, h.1.2, h.2⟩
end Ev
namespace Go.Proofs.YtpbflgemhcaooaaDoor
open Go.RowKit
set_option linter.unusedSimpArgs false
set_option linter.unusedVariables false
def psCells (p : Ev.PS) : Array Value := #[.string ⟨p.s.toArray⟩, .int .i64 p.err]
/-- the reader's block -/
def PAt (w : World) (b : Nat) (p : Ev.PS) : Prop := w.heap[b]? = some (.cells (psCells p) 83 (0, 0))
/-- all that was there is as it was, but for the reader's block -/
structure PFr (b : Nat) (w w' : World) : Prop where
  os : w'.os = w.os
  tape : w'.tape = w.tape
  output : w'.output = w.output
  size : w.heap.size ≤ w'.heap.size
  block : ∀ k, k < w.heap.size → k ≠ b → w'.heap[k]? = w.heap[k]?
theorem PFr.refl (b : Nat) (w : World) : PFr b w w := ⟨rfl, rfl, rfl, Nat.le_refl _, fun _ _ _ => rfl⟩
theorem PFr.trans {b : Nat} {w u v : World} (h : PFr b w u) (k : PFr b u v) : PFr b w v :=
  ⟨k.os.trans h.os, k.tape.trans h.tape, k.output.trans h.output, Nat.le_trans h.size k.size, fun i hi hb => (k.block i (Nat.lt_of_lt_of_le hi h.size) hb).trans (h.block i hi hb)⟩
theorem PFr.of {b : Nat} {w u : World} (h : Below w.heap.size w u) : PFr b w u := ⟨h.os, h.tape, h.output, h.size, fun k hk _ => h.block k hk⟩
theorem PFr.on {b : Nat} {w u v : World} (h : PFr b w u) (k : Below u.heap.size u v) : PFr b w v := h.trans (.of k)
theorem PFr.set {b : Nat} {w u : World} (h : PFr b w u) (j : Nat) (v : Value) : PFr b w (u.setCell ⟨b, j, none⟩ v) :=
  h.trans ⟨rfl, rfl, rfl, by simp, fun k _ hk => Below.heap_setCell u ⟨b, j, none⟩ v k hk⟩
theorem PFr.below {b B : Nat} {w u : World} (h : PFr b w u) (hB : B ≤ b) (hw : B ≤ w.heap.size) : Below B w u :=
  ⟨h.os, h.tape, h.output, h.size, fun k hk => h.block k (by omega) (by omega)⟩
/-- the library's tables stay, whatever the reader does -/
def VarsP (b : Nat) (w : World) : Prop := ∀ u, PFr b w u → Vars u
theorem VarsP.here {b : Nat} {w : World} (h : VarsP b w) : Vars w := h w (.refl b w)
theorem VarsP.to {b : Nat} {w u : World} (h : VarsP b w) (k : PFr b w u) : VarsP b u := fun v hv => h v (k.trans hv)
section
variable {w w' : World} {b : Nat} {p : Ev.PS}
theorem PAt.lt (h : PAt w b p) : b < w.heap.size := (Array.getElem?_eq_some_iff.1 h).1
theorem PAt.stays (h : PAt w b p) (hb : Below w.heap.size w w') : PAt w' b p := (hb.block b h.lt).trans h
theorem PAt.c0 (h : PAt w b p) : w.cell? ⟨b, 0, none⟩ = some (.string ⟨(p.s).toArray⟩) := (cell_of_block h 0).trans rfl
theorem PAt.c1 (h : PAt w b p) : w.cell? ⟨b, 1, none⟩ = some (.int .i64 p.err) := (cell_of_block h 1).trans rfl
theorem PAt.free (h : PAt w b p) (j : Nat) : w.frozen? ⟨b, j, none⟩ = false := by
  unfold World.frozen?
  rw [h]
  simp
theorem PAt.setS (h : PAt w b p) (s : List UInt8) : PAt (w.setCell ⟨b, 0, none⟩ (.string ⟨(s).toArray⟩)) b ⟨s, p.err⟩ := heap_setCell_same w b 0 _ _ _ h
theorem PAt.setE (h : PAt w b p) (e : Int) : PAt (w.setCell ⟨b, 1, none⟩ (.int .i64 e)) b ⟨p.s, e⟩ := heap_setCell_same w b 1 _ _ _ h
end
set_option maxHeartbeats 800000 in
theorem bad_any (p : Ev.PS) (b : Nat) (e0 : Int) (w : World) (h : PAt w b p) :
    Calls Tryd.prog 55 #[.pointer (some ⟨b, 0, none⟩), .int .i64 e0] w fun e w' => e = .returned (.tuple #[]) ∧ PAt w' b (p.bad e0) ∧ PFr b w w' := by
  have c1 := h.c1
  have f1 := h.free 1
  have hlt := h.lt
  have H := Lib.hid h
  clear h
  go_enter Tryd.func55, Tryd.ntmps55
  by_cases h0 : p.err = 0
  · have g0 : (p.err == 0) = true := beq_iff_eq.2 h0
    have HB := Lib.hid (show p.bad e0 = ⟨p.s, e0⟩ from if_pos h0)
    clear h0
    go_wp2_with fail
    go_end0
    exact ⟨rfl, by rw [HB.out]; exact H.out.setE e0, (PFr.refl b w).set 1 _⟩
  · have g0 : (p.err == 0) = false := beq_eq_false_iff_ne.2 h0
    have HB := Lib.hid (show p.bad e0 = p from if_neg h0)
    clear h0
    go_wp2_with fail
    go_end0
    exact ⟨rfl, by rw [HB.out]; exact H.out, PFr.refl b w⟩
/-- how long the reader's text is -/
def psLen (w : World) (b : Nat) : Nat := match w.cell? ⟨b, 0, none⟩ with | some (.string s) => s.size | _ => 0
theorem psLen_at {w : World} {b : Nat} {p : Ev.PS} (h : PAt w b p) : psLen w b = p.s.length := by
  unfold psLen
  rw [h.c0]
  show p.s.toArray.size = _
  simp
set_option maxRecDepth 4000 in
set_option maxHeartbeats 3200000 in
theorem peek_any (p : Ev.PS) (b : Nat) (w : World) (h : PAt w b p) (hl : p.s.length ≤ 1200) :
    Calls Tryd.prog 54 #[.pointer (some ⟨b, 0, none⟩)] w fun e w' => e = .returned (.string ⟨(Ev.peekW p.s).toArray⟩) ∧ PAt w' b p.skip ∧ PFr b w w' := by
  have H := Lib.hid h
  have HP := Lib.hid (show Ev.peekW p.s = (Ev.skipB p.s).take (Ev.wordLen (Ev.skipB p.s)) from rfl)
  have HK := Lib.hid (show p.skip = ⟨Ev.skipB p.s, p.err⟩ from rfl)
  clear h
  go_enter Tryd.func54, Tryd.ntmps54
  go_wp2_with fail
  go_loopw [25] (fun _ wr => ∃ s : List UInt8, Hid (PAt wr b ⟨s, p.err⟩) ∧ PFr b w wr ∧ Hid (Ev.skipB s = Ev.skipB p.s) ∧ s.length ≤ 1200) (fun _ wr => psLen wr b)
  case atStart => exact ⟨p.s, H, PFr.refl b w, Lib.hid rfl, hl⟩
  case round =>
    obtain ⟨s, HA, hF, HS, hsl⟩ := hrel
    have sF := hF.size
    have c0 : wr.cell? ⟨b, 0, none⟩ = some (.string ⟨(s).toArray⟩) := HA.out.c0
    have f0 := HA.out.free 0
    have hlt : b < wr.heap.size := HA.out.lt
    have gm : ((9223372036854775807 : Int) < (s.length : Int)) = False := eq_false (by omega)
    rcases Nat.eq_zero_or_pos s.length with hz | hz
    case inl => as_aux_lemma =>
      obtain rfl : s = [] := List.eq_nil_of_length_eq_zero hz
      have HE := Lib.hid (show Ev.skipB p.s = [] from HS.out.symm)
      clear gm hz
      go_wp2_with fail
      go_loopw [3] (fun kk wx => kk = .int .i64 0 ∧ wr = wx) (fun _ _ => 0)
      case atStart => exact ⟨rfl, rfl⟩
      case round =>
        obtain ⟨rfl, rfl⟩ := hrel
        go_wp2_with fail
        go_ret
        exact ⟨by rw [HP.out, HE.out]; rfl, by rw [HK.out, HE.out]; exact HA.out, hF⟩
    case inr =>
    obtain ⟨c, hc⟩ : ∃ c, s[0]? = some c := ⟨s[0], List.getElem?_eq_getElem hz⟩
    have ix : ∀ u, (Go.Instr.index 9 (.string ⟨(s).toArray⟩) (.int .i64 0)).run Tryd.prog u = .ok (.int .u8 (c.toNat : Int)) u := fun u => sx_ix (T := 9) Tryd.underlying9 (i := 0) hc u
    by_cases hb : c = 32 ∨ c = 10
    case pos => as_aux_lemma =>
      have sf : ∀ u, (Go.Instr.slice 9 (.string ⟨(s).toArray⟩) (some (.int .i64 1)) none none).run Tryd.prog u = .ok (.string ⟨(s.tail).toArray⟩) u := fun u => by
        have h := sx_from (T := 9) Tryd.underlying9 (l := s) (i := 1) hz u
        rw [List.drop_one] at h
        exact h
      have HD := Lib.hid (show Ev.skipB s.tail = Ev.skipB s by rw [← List.drop_one]; exact Ev.skip_drop hc hb)
      rcases hb with rfl | rfl
      all_goals
        clear hc
        go_wp2_with fail
        go_roundw
        case rel => exact ⟨s.tail, Lib.hid (HA.out.setS s.tail), hF.set 0 _, Lib.hid (HD.out.trans HS.out), by rw [List.length_tail]; omega⟩
        case measure =>
          rw [psLen_at HA.out, psLen_at (HA.out.setS s.tail)]
          show s.tail.length < s.length
          rw [List.length_tail]
          omega
    case neg =>
    have g1 : ((c.toNat : Int) == 32) = false := sx_ne 32 (by omega) (fun h => hb (.inl h))
    have g2 : ((c.toNat : Int) == 10) = false := sx_ne 10 (by omega) (fun h => hb (.inr h))
    have HE := Lib.hid (show Ev.skipB p.s = s from HS.out.symm.trans (Ev.skip_none hc (fun h => hb (.inl h)) (fun h => hb (.inr h))))
    clear hb hc
    go_upto_region 4 with fail
    clear ix g1 g2 f0
    have hrl := Ev.run_le s
    go_loopw [3] (fun kk wx => ∃ k : Nat, kk = .int .i64 (k : Int) ∧ k ≤ Ev.runLen s ∧ wr = wx) (fun kk _ => s.length - (intOf kk).toNat)
    case atStart => exact ⟨0, rfl, by omega, rfl⟩
    case round =>
    obtain ⟨k, rfl, hk, rfl⟩ := hrel
    by_cases hkr : k < Ev.runLen s
    case pos => as_aux_lemma =>
      obtain ⟨c, hc⟩ : ∃ c, s[k]? = some c := ⟨s[k]'(by omega), List.getElem?_eq_getElem (by omega)⟩
      have ix : ∀ u, (Go.Instr.index 9 (.string ⟨(s).toArray⟩) (.int .i64 (k : Int))).run Tryd.prog u = .ok (.int .u8 (c.toNat : Int)) u := fun u => sx_ix (T := 9) Tryd.underlying9 hc u
      obtain ⟨n1, n2, n3, n4⟩ := Ev.sepc_not (Ev.run_at s k c hkr hc)
      have g1 : ((c.toNat : Int) != 32) = true := sx_neq 32 (by omega) n1
      have g2 : ((c.toNat : Int) != 10) = true := sx_neq 10 (by omega) n2
      have g3 : ((c.toNat : Int) != 40) = true := sx_neq 40 (by omega) n3
      have g4 : ((c.toNat : Int) != 41) = true := sx_neq 41 (by omega) n4
      have gk : k < s.length := by omega
      clear hc n1 n2 n3 n4
      go_wp2_with fail
      go_roundw
      case rel => exact ⟨k + 1, by go_num, by omega, by first | rfl | trivial⟩
      case measure => simp [intOf]; omega
    case neg => as_aux_lemma =>
    have hkr2 : k = Ev.runLen s := by omega
    have st : ∀ u, (Go.Instr.slice 9 (.string ⟨(s).toArray⟩) none (some (.int .i64 (k : Int))) none).run Tryd.prog u = .ok (.string ⟨(s.take k).toArray⟩) u := fun u => sx_to (T := 9) Tryd.underlying9 (by omega) u
    have st1 : ∀ u, (Go.Instr.slice 9 (.string ⟨(s).toArray⟩) none (some (.int .i64 1)) none).run Tryd.prog u = .ok (.string ⟨(s.take 1).toArray⟩) u := fun u => sx_to (T := 9) Tryd.underlying9 (i := 1) hz u
    have HW := Lib.hid (show Ev.wordLen s = if k = 0 then 1 else k by
      unfold Ev.wordLen
      rw [← hkr2]
      by_cases h0 : k = 0
      · rw [if_pos h0, if_pos ⟨h0, fun e => by rw [e] at hz; simp at hz⟩]
      · rw [if_neg h0, if_neg (fun h => h0 h.1)])
    have hx : k = s.length ∨ (∃ c, s[k]? = some c ∧ (c = 32 ∨ c = 10 ∨ c = 40 ∨ c = 41)) := by
      by_cases he : k = s.length
      · exact .inl he
      · obtain ⟨c, hc⟩ : ∃ c, s[k]? = some c := ⟨s[k]'(by omega), List.getElem?_eq_getElem (by omega)⟩
        exact .inr ⟨c, hc, Ev.sepc_yes (Ev.run_stop s c (by rw [← hkr2]; exact hc))⟩
    clear hkr hkr2 hk hrl
    rcases hx with hx | ⟨c, hc, hx⟩
    · have gk : ¬ (k : Int) < (s.length : Int) := by omega
      have g0 : ((k : Int) == 0) = false := beq_eq_false_iff_ne.2 (by omega)
      have HW2 := Lib.hid (HW.out.trans (if_neg (by omega)))
      clear HW hx
      go_wp2_with fail
      go_ret
      exact ⟨by rw [HP.out, HE.out, HW2.out] <;> rfl, by rw [HK.out, HE.out]; exact HA.out, hF⟩
    · have gk : (k : Int) < (s.length : Int) := by have := (List.getElem?_eq_some_iff.1 hc).1; omega
      have ix : ∀ u, (Go.Instr.index 9 (.string ⟨(s).toArray⟩) (.int .i64 (k : Int))).run Tryd.prog u = .ok (.int .u8 (c.toNat : Int)) u := fun u => sx_ix (T := 9) Tryd.underlying9 hc u
      clear hc
      by_cases h0 : k = 0
      · subst h0
        have HW2 := Lib.hid (HW.out.trans (if_pos rfl))
        have gz : (0 : Int) < (s.length : Int) := by omega
        replace ix : ∀ u, (Go.Instr.index 9 (.string ⟨(s).toArray⟩) (.int .i64 0)).run Tryd.prog u = .ok (.int .u8 (c.toNat : Int)) u := ix
        clear HW gk st
        rcases hx with rfl | rfl | rfl | rfl
        all_goals
          go_wp2_with fail
          go_ret
          exact ⟨by rw [HP.out, HE.out, HW2.out] <;> rfl, by rw [HK.out, HE.out]; exact HA.out, hF⟩
      · have g0 : ((k : Int) == 0) = false := beq_eq_false_iff_ne.2 (by omega)
        have HW2 := Lib.hid (HW.out.trans (if_neg h0))
        clear HW h0
        rcases hx with rfl | rfl | rfl | rfl
        all_goals
          go_wp2_with fail
          go_ret
          exact ⟨by rw [HP.out, HE.out, HW2.out] <;> rfl, by rw [HK.out, HE.out]; exact HA.out, hF⟩
end Go.Proofs.YtpbflgemhcaooaaDoor
/- The document's reader: its small methods. -/
namespace Go.Proofs.YtpbflgemhcaooaaDoor
open Go.RowKit
set_option linter.unusedSimpArgs false
set_option linter.unusedVariables false
theorem peek_in (p : Ev.PS) : (Ev.peekW p.s).length ≤ (Ev.skipB p.s).length := by rw [Ev.peek_len]; exact Ev.word_le _
set_option maxHeartbeats 1600000 in
theorem take_any (p : Ev.PS) (b : Nat) (w : World) (h : PAt w b p) (hl : p.s.length ≤ 1200) :
    Calls Tryd.prog 84 #[.pointer (some ⟨b, 0, none⟩)] w fun e w' => e = .returned (.string ⟨((Ev.takeW p).1).toArray⟩) ∧ PAt w' b (Ev.takeW p).2 ∧ PFr b w w' := by
  have H := Lib.hid h
  have CP := Lib.hid (peek_any p b w h hl)
  have hv := peek_in p
  have hk := Ev.skip_le p.s
  have HE := Lib.hid (show Ev.takeW p = (Ev.peekW p.s, ⟨(Ev.skipB p.s).drop (Ev.peekW p.s).length, if Ev.peekW p.s = [] then (p.bad 8).err else p.err⟩) from rfl)
  have HB := Lib.hid (show (p.skip.bad 8) = ⟨Ev.skipB p.s, (p.bad 8).err⟩ by
    unfold Ev.PS.bad Ev.PS.skip
    split <;> rfl)
  have HK := Lib.hid (show p.skip = ⟨Ev.skipB p.s, p.err⟩ from rfl)
  obtain ⟨s, hs⟩ : ∃ s, Ev.skipB p.s = s := ⟨_, rfl⟩
  obtain ⟨v, hvv⟩ : ∃ v, Ev.peekW p.s = v := ⟨_, rfl⟩
  rw [hs, hvv] at hv HE
  rw [hs] at hk HB HK
  rw [hvv] at CP
  clear h hs hvv
  have sf : ∀ u, (Go.Instr.slice 9 (.string ⟨(s).toArray⟩) (some (.int .i64 (v.length : Int))) none none).run Tryd.prog u = .ok (.string ⟨(s.drop v.length).toArray⟩) u := fun u => sx_from (T := 9) Tryd.underlying9 (l := s) (i := v.length) hv u
  go_enter Tryd.func84, Tryd.ntmps84
  go_upto_region 2 with (go_at_call 54; refine CP.out.mono ?_; rintro e w1 ⟨rfl, h1, hF1⟩)
  rw [HK.out] at h1
  have H1 := Lib.hid h1
  clear h1 CP
  by_cases hn : v = []
  case pos =>
    subst hn
    have sf0 : ∀ u, (Go.Instr.slice 9 (.string ⟨(s).toArray⟩) (some (.int .i64 0)) none none).run Tryd.prog u = .ok (.string ⟨(s).toArray⟩) u := sf
    have HE2 := Lib.hid (show Ev.takeW p = ([], ⟨s, (p.bad 8).err⟩) by rw [HE.out, if_pos rfl]; rfl)
    clear sf HE
    have CB := Lib.hid (bad_any ⟨s, p.err⟩ b 8 w1 H1.out)
    have HB2 := Lib.hid (show (⟨s, p.err⟩ : Ev.PS).bad 8 = ⟨s, (p.bad 8).err⟩ from by rw [← HK.out]; exact HB.out)
    go_upto_region 4 with (go_at_call 55; refine CB.out.mono ?_; rintro e w2 ⟨rfl, h2, hF2⟩)
    rw [HB2.out] at h2
    have H2 := Lib.hid h2
    have c0 : w2.cell? ⟨b, 0, none⟩ = some (.string ⟨(s).toArray⟩) := h2.c0
    have f0 := h2.free 0
    have hlt := h2.lt
    clear h2
    go_wp2_with fail
    go_ret
    exact ⟨by rw [HE2.out]; rfl, by rw [HE2.out]; exact H2.out.setS _, (hF1.trans hF2).set 0 _⟩
  case neg =>
    have c0 : w1.cell? ⟨b, 0, none⟩ = some (.string ⟨(s).toArray⟩) := H1.out.c0
    have f0 := H1.out.free 0
    have hlt := H1.out.lt
    have HN := Lib.hid (show (if v = [] then (p.bad 8).err else p.err) = p.err from if_neg hn)
    have gn : (v == []) = false := beq_eq_false_iff_ne.2 hn
    go_wp2_with fail
    go_ret
    exact ⟨by rw [HE.out]; rfl, by rw [HE.out]; dsimp only; rw [HN.out]; exact H1.out.setS _, hF1.set 0 _⟩
set_option maxHeartbeats 1600000 in
theorem is_any (p : Ev.PS) (v : List UInt8) (b : Nat) (w : World) (h : PAt w b p) (hl : p.s.length ≤ 1200) :
    Calls Tryd.prog 46 #[.pointer (some ⟨b, 0, none⟩), .string ⟨(v).toArray⟩] w fun e w' => e = .returned (.tuple #[]) ∧ PAt w' b (Ev.isW v p) ∧ PFr b w w' := by
  have CT := Lib.hid (take_any p b w h hl)
  have HE := Lib.hid (show Ev.isW v p = if (Ev.takeW p).1 ≠ v then (Ev.takeW p).2.bad 2 else (Ev.takeW p).2 from rfl)
  generalize (Ev.takeW p).1 = x at *
  generalize (Ev.takeW p).2 = q at *
  clear h
  go_enter Tryd.func46, Tryd.ntmps46
  by_cases hx : x = v
  · subst hx
    go_wp2_with (go_at_call 84; refine CT.out.mono ?_; rintro e w1 ⟨rfl, h1, hF1⟩)
    go_end0
    exact ⟨rfl, by rw [HE.out, if_neg (fun h => h rfl)]; exact h1, hF1⟩
  · have g1 : (x != v) = true := bne_iff_ne.2 hx
    have g2 : (x == v) = false := beq_eq_false_iff_ne.2 hx
    have HX := Lib.hid (HE.out.trans (if_pos hx))
    clear hx HE
    go_upto_region 1 with (go_at_call 84; refine CT.out.mono ?_; rintro e w1 ⟨rfl, h1, hF1⟩)
    have H1 := Lib.hid h1
    clear h1
    go_wp2_with (go_at_call 55; refine (bad_any q b 2 _ H1.out).mono ?_; rintro e w2 ⟨rfl, h2, hF2⟩)
    go_end0
    exact ⟨rfl, by rw [HX.out]; exact h2, hF1.trans hF2⟩
end Go.Proofs.YtpbflgemhcaooaaDoor
