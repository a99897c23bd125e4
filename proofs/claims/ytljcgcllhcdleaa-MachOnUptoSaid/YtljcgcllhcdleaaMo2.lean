import Derived.Test.YtljcgcllhcdleaaMo1
import Derived.Maps.AppendAt
import Derived.Laws.OwnMore
import Derived.Deep.AppendLies
import Derived.OwnWalk
import Derived.Test.YtljcgcllhcdleaaProg
import Derived.WalkSpells
import Derived.WalkLawsBesides
import Derived.Handy
import Derived.Lib.Hide
import Derived.BigQuiet
import Derived.Deep.QuietTactic
import Derived.Deep.DeepCutAuto
import Derived.Lib.SliceRun
import Derived.Outline
/- append onto a row of the call's own; the source reads as a list. -/
namespace Go.Proofs.Ytljcgcllhcdleaa
open Go.RowKit
section
variable {P : Program} {w : World} {B size : Nat}
theorem SL.of_own {base : Nat} {e : TypeId} {v : Value} {n : Nat} {xs : List Value} (h : w.ownsRow base e size v n xs) : SL w w.heap.size size v n xs := by
  refine ⟨h.1, ?_⟩
  rcases h.2 with ⟨rfl, rfl⟩ | ⟨g, cap, cur, rfl, _, hw, hnc, hm, hs, ht⟩
  · exact ⟨none, 0, rfl, Nat.le_refl _, by simp [maxLen], fun _ => rfl, fun hn => absurd hn (by omega)⟩
  · refine ⟨_, cap, rfl, hnc, hm, (fun he => by cases he), fun hn => ⟨g, 0, rfl, ?_, fun j u hu => ?_⟩⟩
    · rcases Nat.lt_or_ge g w.heap.size with h1 | h1
      · exact h1
      · rw [Array.getElem?_eq_none h1] at hw; cases hw
    · rw [← ht] at hu
      have hj : j < n * size := by
        rcases Nat.lt_or_ge j (n * size) with h1 | h1
        · exact h1
        · rw [List.getElem?_eq_none (by rw [List.length_take]; omega)] at hu; cases hu
      rw [List.getElem?_take_of_lt hj] at hu
      simp [World.cell?, hw]
      simpa using hu

theorem from_own {base : Nat} {e : TypeId} {v : Value} {n : Nat} {xs : List Value} (h : w.ownsRow base e size v n xs) : from_ base v := by
  rcases h.2 with ⟨rfl, rfl⟩ | ⟨g, cap, cur, rfl, hb, _⟩
  · exact from_nil _ _ _
  · exact from_some _ _ hb

theorem run_append_SL (base : Nat) (t ty e : TypeId) (i : TypeInfo) (z : Value) (bytes : Nat) (ht : P.underlying t = some (.slice e)) (hi : P.info? e = some i) (hz : i.zero = some z)
    (hsize : i.size = size) (hby : i.bytes = bytes) (hzs : z.cells.size = size) (hsz : 0 < size)
    {v : Value} {n : Nat} {xs : List Value} (hown : w.ownsRow base e size v n xs)
    {src : Value} {m : Nat} {news : List Value} (hr : SL w B size src m news) (h1 : ∀ u ∈ news, u.oneCell' = true)
    (h63 : n + m ≤ maxLen) (hbytes : (n + m) * bytes ≤ 140737488355328) (hbase : base ≤ w.heap.size) :
    ∃ v' w', (Builtin.append_ #[t, t] ty #[v, src]).run P w = .ok v' w' ∧ w'.ownsRow base e size v' (n + m) (xs ++ news) ∧ w.grownBy w' v.ownBlock ∧
      (v'.ownBlock = v.ownBlock ∨ v'.ownBlock = some w.heap.size) := by
  obtain ⟨hl, A, c, rfl, hc1, hc2, hc3, hc4⟩ := hr
  rcases A with _ | ad
  · have hm : m = 0 := by
      rcases Nat.eq_zero_or_pos m with h0 | h0
      · exact h0
      · obtain ⟨b, o, h, _⟩ := hc4 h0
        cases h
    subst hm
    have hn : news = [] := List.eq_nil_of_length_eq_zero (by simpa using hl)
    subst hn
    have hrun : (Builtin.append_ #[t, t] ty #[v, .slice none 0 c]).run P w = .ok v w := by
      rcases hown.2 with ⟨rfl, rfl⟩ | ⟨g, cap, cur, rfl, _, _, hnc, _⟩
      · simp [Builtin.append_, run_underlying ht, sizeOf, typeInfo, hi, Builtin.lenOf, Builtin.firstCells]
      · simp [Builtin.append_, run_underlying ht, sizeOf, typeInfo, hi, Builtin.lenOf, Builtin.firstCells, hnc, storeCells]
    exact ⟨v, w, hrun, by simpa using hown, World.grownBy.refl w _, .inl rfl⟩
  · have hcells : ∀ j u, news[j]? = some u → w.cell? (ad.add j) = some u := by
      intro j u hu
      rcases Nat.eq_zero_or_pos m with h0 | h0
      · subst h0
        have hn : news = [] := List.eq_nil_of_length_eq_zero (by simpa using hl)
        subst hn
        simp at hu
      · obtain ⟨b, o, h, _, hc⟩ := hc4 h0
        injection h with h
        subst h
        have := hc j u hu
        unfold Addr.add
        split
        · rename_i hj
          subst hj
          exact this
        · exact this
    obtain ⟨v', w', hrun, h2, h3, _, h5⟩ := run_append_own_at (P := P) w base t ty e i z size bytes ht hi hz hsize hby hzs hsz v n xs hown ad m c news hl hcells h1 h63 hbytes hbase
    exact ⟨v', w', hrun, h2, h3, h5⟩

theorem wp_append_SL {o : Oper} {a : Act} {K : Act → World → Prop} {Q : Exit → Act → World → Prop} (s x : Operand) (t : TypeId)
    (ho : o.op = .call { callee := .builtin .append, args := #[s, x], argTypes := #[t, t] })
    (base : Nat) (e : TypeId) (i : TypeInfo) (z : Value) (bytes : Nat) (ht : P.underlying t = some (.slice e)) (hi : P.info? e = some i) (hz : i.zero = some z)
    (hsize : i.size = size) (hby : i.bytes = bytes) (hzs : z.cells.size = size) (hsz : 0 < size)
    {v : Value} {n : Nat} {xs : List Value} (hs : a.eval s = v) (hown : w.ownsRow base e size v n xs)
    {src : Value} {m : Nat} {news : List Value} (hx : a.eval x = src) (hr : SL w B size src m news) (h1 : ∀ u ∈ news, u.oneCell' = true)
    (h63 : n + m ≤ maxLen) (hbytes : (n + m) * bytes ≤ 140737488355328) (hbase : base ≤ w.heap.size)
    (h : ∀ v' w', w'.ownsRow base e size v' (n + m) (xs ++ news) → w.grownBy w' v.ownBlock → (v'.ownBlock = v.ownBlock ∨ v'.ownBlock = some w.heap.size) → K (a.put o.dst v') w') : o.wp P a w K Q := by
  obtain ⟨v', w', hrun, h2, h3, h4⟩ := run_append_SL (P := P) base t o.type e i z bytes ht hi hz hsize hby hzs hsz hown hr h1 h63 hbytes hbase
  unfold Oper.wp execOp
  simp only [ho, resolve, invoke, builtin, Sem.run_bind, Sem.run_pure, Result.andThen_ok, List.map_toArray, List.map_cons, List.map_nil, hs, hx, hrun]
  exact h v' w' h2 h3 h4
theorem wpList_append_SL {ops : Array Oper} {rest : List Oper} {o : Oper} {a : Act} {Q : Exit → Act → World → Prop} (hgd : o.guard = none) (s x : Operand) (t : TypeId)
    (ho : o.op = .call { callee := .builtin .append, args := #[s, x], argTypes := #[t, t] })
    (base : Nat) (e : TypeId) (i : TypeInfo) (z : Value) (bytes : Nat) (ht : P.underlying t = some (.slice e)) (hi : P.info? e = some i) (hz : i.zero = some z)
    (hsize : i.size = size) (hby : i.bytes = bytes) (hzs : z.cells.size = size) (hsz : 0 < size)
    {v : Value} {n : Nat} {xs : List Value} (hs : a.eval s = v) (hown : w.ownsRow base e size v n xs)
    {src : Value} {m : Nat} {news : List Value} (hx : a.eval x = src) (hr : SL w B size src m news) (h1 : ∀ u ∈ news, u.oneCell' = true)
    (h63 : n + m ≤ maxLen) (hbytes : (n + m) * bytes ≤ 140737488355328) (hbase : base ≤ w.heap.size)
    (h : ∀ v' w', w'.ownsRow base e size v' (n + m) (xs ++ news) → w.grownBy w' v.ownBlock → (v'.ownBlock = v.ownBlock ∨ v'.ownBlock = some w.heap.size) → wpList P ops Q rest (a.put o.dst v') w') : wpList P ops Q (o :: rest) a w :=
  wpList_plain hgd fun _ hK => wp_append_SL s x t ho base e i z bytes ht hi hz hsize hby hzs hsz hs hown hx hr h1 h63 hbytes hbase fun v' w' h2 h3 h4 => hK _ _ (h v' w' h2 h3 h4)
end
end Go.Proofs.Ytljcgcllhcdleaa
/- slices.Clone, at four types. (Printed by wip/gen/clone.py.) -/
namespace Go.Proofs.Ytljcgcllhcdleaa
open Go.RowKit
set_option linter.unusedSimpArgs false
set_option linter.unusedVariables false
theorem one_code (l : List Ev.Instr) : ∀ u ∈ l.flatMap cellsI, u.oneCell' = true := by
  intro u hu
  rw [List.mem_flatMap] at hu
  obtain ⟨i, _, hi⟩ := hu
  simp only [cellsI, List.mem_cons, List.not_mem_nil, or_false] at hi
  rcases hi with rfl | rfl | rfl | rfl | rfl | rfl <;> rfl
theorem one_vars (l : List Ev.Vr) : ∀ u ∈ l.flatMap cellsV, u.oneCell' = true := by
  intro u hu
  rw [List.mem_flatMap] at hu
  obtain ⟨i, _, hi⟩ := hu
  simp only [cellsV, List.mem_cons, List.not_mem_nil, or_false] at hi
  rcases hi with rfl | rfl | rfl <;> rfl
theorem one_ints (l : List Int) : ∀ u ∈ l.map (Value.int .i64), u.oneCell' = true := by
  intro u hu
  rw [List.mem_map] at hu
  obtain ⟨i, _, rfl⟩ := hu
  rfl
theorem one_bools (l : List Bool) : ∀ u ∈ l.map Value.bool, u.oneCell' = true := by
  intro u hu
  rw [List.mem_map] at hu
  obtain ⟨i, _, rfl⟩ := hu
  rfl

theorem cloneCode_info : (Try.prog.info? 39).map (fun i => (i.zero, i.size, i.bytes)) = some (some (.agg #[.int .i64 0, .int .i64 0, .int .i64 0, .int .i64 0, .int .i64 0, .int .i64 0]), 6, 48) := by kernel_rfl
set_option maxHeartbeats 800000 in
theorem cloneCode_any (l : List Ev.Instr) (v : Value) (w : World) (h : RCode w w.heap.size v l) (hl : l.length ≤ 1073741824) :
    Calls Try.prog 65 #[v] w fun e w' => ∃ v', e = .returned v' ∧ RCode w' w'.heap.size v' l ∧ from_ w.heap.size v' ∧ Below w.heap.size w w' := by
  obtain ⟨i0, hi0, hz0, hz1, hz2⟩ := info_parts cloneCode_info
  have HI := Lib.hid (⟨hi0, hz0, hz1, hz2⟩ : _ ∧ _ ∧ _ ∧ _)
  clear hi0 hz0 hz1 hz2
  have HR := Lib.hid h
  obtain ⟨A, c, rfl, hc1, hc2⟩ := SL.form h
  have hnil : A = none → l = [] := fun ha => by
    subst ha
    cases l with
    | nil => rfl
    | cons x r =>
      obtain ⟨_, A', c', he, _, _, _, h4⟩ := h
      obtain ⟨b, o, e, _⟩ := h4 (by simp)
      subst e
      cases he
  clear h
  have heq := fun W a n c n' c' => Lib.run_eql_slice_nil (P := Try.prog) W 22 39 a n c n' c' Try.underlying22
  cases A with
  | none =>
    have hl0 := hnil rfl
    subst hl0
    clear hnil
    go_enter Try.func65, Try.ntmps65
    go_wp2
    go_ret
    exact ⟨_, rfl, SL.nil_ _ _ _, from_nil _ _ _, by (repeat' first | with_reducible (first | exact Below.refl _ _ | assumption | refine Below.alloc ?_ ?_ _ | refine below_drewN ?_ _ | refine Below.drew ?_ | refine Below.setCell ?_ ?_ _ | refine Below.trans ?_ (Below.mono (by with_reducible assumption) ?_)) | go_size)⟩
  | some a =>
    clear hnil
    go_enter Try.func65, Try.ntmps65
    go_wp2_with (at_builtin; refine wpList_append_SL (B := w.heap.size) rfl (.tmp 5) (.tmp 6) _ rfl w.heap.size 39 i0 _ 48 Try.underlying22 HI.out.1 HI.out.2.1 HI.out.2.2.1 HI.out.2.2.2 rfl (by omega) rfl (World.ownsRow_made w #[] 0 (Nat.le_refl _) (by simp [maxLen]) (by simp)) rfl (SL.below HR.out (by (repeat' first | with_reducible (first | exact Below.refl _ _ | assumption | refine Below.alloc ?_ ?_ _ | refine below_drewN ?_ _ | refine Below.drew ?_ | refine Below.setCell ?_ ?_ _ | refine Below.trans ?_ (Below.mono (by with_reducible assumption) ?_)) | go_size))) (one_code l) (by simp only [maxLen]; omega) (by omega) (by go_size) ?_; intro v1 w1 hown1 hg1 hat1)
    have hb1 : Below w.heap.size w w1 := (by (repeat' first | with_reducible (first | exact Below.refl _ _ | assumption | refine Below.alloc ?_ ?_ _ | refine below_drewN ?_ _ | refine Below.drew ?_ | refine Below.setCell ?_ ?_ _ | refine Below.trans ?_ (Below.mono (by with_reducible assumption) ?_)) | go_size) : Below w.heap.size w _).grown hg1 (by go_size) (by intro k hk; have hk' : w.heap.size = k := (Option.some.inj hk); omega)
    go_ret
    exact ⟨_, rfl, by (show SL _ _ _ _ _ _; simpa using SL.of_own hown1), from_own hown1, hb1⟩

theorem cloneBools_info : (Try.prog.info? 4).map (fun i => (i.zero, i.size, i.bytes)) = some (some (.bool false), 1, 1) := by kernel_rfl
set_option maxHeartbeats 800000 in
theorem cloneBools_any (l : List Bool) (v : Value) (w : World) (h : RBools w w.heap.size v l) (hl : l.length ≤ 1073741824) :
    Calls Try.prog 66 #[v] w fun e w' => ∃ v', e = .returned v' ∧ RBools w' w'.heap.size v' l ∧ from_ w.heap.size v' ∧ Below w.heap.size w w' := by
  obtain ⟨i0, hi0, hz0, hz1, hz2⟩ := info_parts cloneBools_info
  have HI := Lib.hid (⟨hi0, hz0, hz1, hz2⟩ : _ ∧ _ ∧ _ ∧ _)
  clear hi0 hz0 hz1 hz2
  have HR := Lib.hid h
  obtain ⟨A, c, rfl, hc1, hc2⟩ := SL.form h
  have hnil : A = none → l = [] := fun ha => by
    subst ha
    cases l with
    | nil => rfl
    | cons x r =>
      obtain ⟨_, A', c', he, _, _, _, h4⟩ := h
      obtain ⟨b, o, e, _⟩ := h4 (by simp)
      subst e
      cases he
  clear h
  have heq := fun W a n c n' c' => Lib.run_eql_slice_nil (P := Try.prog) W 23 4 a n c n' c' Try.underlying23
  cases A with
  | none =>
    have hl0 := hnil rfl
    subst hl0
    clear hnil
    go_enter Try.func66, Try.ntmps66
    go_wp2
    go_ret
    exact ⟨_, rfl, SL.nil_ _ _ _, from_nil _ _ _, by (repeat' first | with_reducible (first | exact Below.refl _ _ | assumption | refine Below.alloc ?_ ?_ _ | refine below_drewN ?_ _ | refine Below.drew ?_ | refine Below.setCell ?_ ?_ _ | refine Below.trans ?_ (Below.mono (by with_reducible assumption) ?_)) | go_size)⟩
  | some a =>
    clear hnil
    go_enter Try.func66, Try.ntmps66
    go_wp2_with (at_builtin; refine wpList_append_SL (B := w.heap.size) rfl (.tmp 5) (.tmp 6) _ rfl w.heap.size 4 i0 _ 1 Try.underlying23 HI.out.1 HI.out.2.1 HI.out.2.2.1 HI.out.2.2.2 rfl (by omega) rfl (World.ownsRow_made w #[] 0 (Nat.le_refl _) (by simp [maxLen]) (by simp)) rfl (SL.below HR.out (by (repeat' first | with_reducible (first | exact Below.refl _ _ | assumption | refine Below.alloc ?_ ?_ _ | refine below_drewN ?_ _ | refine Below.drew ?_ | refine Below.setCell ?_ ?_ _ | refine Below.trans ?_ (Below.mono (by with_reducible assumption) ?_)) | go_size))) (one_bools l) (by simp only [maxLen]; omega) (by omega) (by go_size) ?_; intro v1 w1 hown1 hg1 hat1)
    have hb1 : Below w.heap.size w w1 := (by (repeat' first | with_reducible (first | exact Below.refl _ _ | assumption | refine Below.alloc ?_ ?_ _ | refine below_drewN ?_ _ | refine Below.drew ?_ | refine Below.setCell ?_ ?_ _ | refine Below.trans ?_ (Below.mono (by with_reducible assumption) ?_)) | go_size) : Below w.heap.size w _).grown hg1 (by go_size) (by intro k hk; have hk' : w.heap.size = k := (Option.some.inj hk); omega)
    go_ret
    exact ⟨_, rfl, by (show SL _ _ _ _ _ _; simpa using SL.of_own hown1), from_own hown1, hb1⟩

theorem cloneVars_info : (Try.prog.info? 88).map (fun i => (i.zero, i.size, i.bytes)) = some (some (.agg #[.string ⟨#[]⟩, .bool false, .int .i64 0]), 3, 32) := by kernel_rfl
set_option maxHeartbeats 800000 in
theorem cloneVars_any (l : List Ev.Vr) (v : Value) (w : World) (h : RVars w w.heap.size v l) (hl : l.length ≤ 1073741824) :
    Calls Try.prog 67 #[v] w fun e w' => ∃ v', e = .returned v' ∧ RVars w' w'.heap.size v' l ∧ from_ w.heap.size v' ∧ Below w.heap.size w w' := by
  obtain ⟨i0, hi0, hz0, hz1, hz2⟩ := info_parts cloneVars_info
  have HI := Lib.hid (⟨hi0, hz0, hz1, hz2⟩ : _ ∧ _ ∧ _ ∧ _)
  clear hi0 hz0 hz1 hz2
  have HR := Lib.hid h
  obtain ⟨A, c, rfl, hc1, hc2⟩ := SL.form h
  have hnil : A = none → l = [] := fun ha => by
    subst ha
    cases l with
    | nil => rfl
    | cons x r =>
      obtain ⟨_, A', c', he, _, _, _, h4⟩ := h
      obtain ⟨b, o, e, _⟩ := h4 (by simp)
      subst e
      cases he
  clear h
  have heq := fun W a n c n' c' => Lib.run_eql_slice_nil (P := Try.prog) W 24 88 a n c n' c' Try.underlying24
  cases A with
  | none =>
    have hl0 := hnil rfl
    subst hl0
    clear hnil
    go_enter Try.func67, Try.ntmps67
    go_wp2
    go_ret
    exact ⟨_, rfl, SL.nil_ _ _ _, from_nil _ _ _, by (repeat' first | with_reducible (first | exact Below.refl _ _ | assumption | refine Below.alloc ?_ ?_ _ | refine below_drewN ?_ _ | refine Below.drew ?_ | refine Below.setCell ?_ ?_ _ | refine Below.trans ?_ (Below.mono (by with_reducible assumption) ?_)) | go_size)⟩
  | some a =>
    clear hnil
    go_enter Try.func67, Try.ntmps67
    go_wp2_with (at_builtin; refine wpList_append_SL (B := w.heap.size) rfl (.tmp 5) (.tmp 6) _ rfl w.heap.size 88 i0 _ 32 Try.underlying24 HI.out.1 HI.out.2.1 HI.out.2.2.1 HI.out.2.2.2 rfl (by omega) rfl (World.ownsRow_made w #[] 0 (Nat.le_refl _) (by simp [maxLen]) (by simp)) rfl (SL.below HR.out (by (repeat' first | with_reducible (first | exact Below.refl _ _ | assumption | refine Below.alloc ?_ ?_ _ | refine below_drewN ?_ _ | refine Below.drew ?_ | refine Below.setCell ?_ ?_ _ | refine Below.trans ?_ (Below.mono (by with_reducible assumption) ?_)) | go_size))) (one_vars l) (by simp only [maxLen]; omega) (by omega) (by go_size) ?_; intro v1 w1 hown1 hg1 hat1)
    have hb1 : Below w.heap.size w w1 := (by (repeat' first | with_reducible (first | exact Below.refl _ _ | assumption | refine Below.alloc ?_ ?_ _ | refine below_drewN ?_ _ | refine Below.drew ?_ | refine Below.setCell ?_ ?_ _ | refine Below.trans ?_ (Below.mono (by with_reducible assumption) ?_)) | go_size) : Below w.heap.size w _).grown hg1 (by go_size) (by intro k hk; have hk' : w.heap.size = k := (Option.some.inj hk); omega)
    go_ret
    exact ⟨_, rfl, by (show SL _ _ _ _ _ _; simpa using SL.of_own hown1), from_own hown1, hb1⟩

theorem cloneInts_info : (Try.prog.info? 3).map (fun i => (i.zero, i.size, i.bytes)) = some (some (.int .i64 0), 1, 8) := by kernel_rfl
set_option maxHeartbeats 800000 in
theorem cloneInts_any (l : List Int) (v : Value) (w : World) (h : RInts w w.heap.size v l) (hl : l.length ≤ 1073741824) :
    Calls Try.prog 92 #[v] w fun e w' => ∃ v', e = .returned v' ∧ RInts w' w'.heap.size v' l ∧ from_ w.heap.size v' ∧ w'.ownsRow w.heap.size 3 1 v' l.length (l.map (Value.int .i64)) ∧ Below w.heap.size w w' := by
  obtain ⟨i0, hi0, hz0, hz1, hz2⟩ := info_parts cloneInts_info
  have HI := Lib.hid (⟨hi0, hz0, hz1, hz2⟩ : _ ∧ _ ∧ _ ∧ _)
  clear hi0 hz0 hz1 hz2
  have HR := Lib.hid h
  obtain ⟨A, c, rfl, hc1, hc2⟩ := SL.form h
  have hnil : A = none → l = [] := fun ha => by
    subst ha
    cases l with
    | nil => rfl
    | cons x r =>
      obtain ⟨_, A', c', he, _, _, _, h4⟩ := h
      obtain ⟨b, o, e, _⟩ := h4 (by simp)
      subst e
      cases he
  clear h
  have heq := fun W a n c n' c' => Lib.run_eql_slice_nil (P := Try.prog) W 42 3 a n c n' c' Try.underlying42
  cases A with
  | none =>
    have hl0 := hnil rfl
    subst hl0
    clear hnil
    go_enter Try.func92, Try.ntmps92
    go_wp2
    go_ret
    exact ⟨_, rfl, SL.nil_ _ _ _, from_nil _ _ _, World.ownsRow_nil _ _ _ _, by (repeat' first | with_reducible (first | exact Below.refl _ _ | assumption | refine Below.alloc ?_ ?_ _ | refine below_drewN ?_ _ | refine Below.drew ?_ | refine Below.setCell ?_ ?_ _ | refine Below.trans ?_ (Below.mono (by with_reducible assumption) ?_)) | go_size)⟩
  | some a =>
    clear hnil
    go_enter Try.func92, Try.ntmps92
    go_wp2_with (at_builtin; refine wpList_append_SL (B := w.heap.size) rfl (.tmp 5) (.tmp 6) _ rfl w.heap.size 3 i0 _ 8 Try.underlying42 HI.out.1 HI.out.2.1 HI.out.2.2.1 HI.out.2.2.2 rfl (by omega) rfl (World.ownsRow_made w #[] 0 (Nat.le_refl _) (by simp [maxLen]) (by simp)) rfl (SL.below HR.out (by (repeat' first | with_reducible (first | exact Below.refl _ _ | assumption | refine Below.alloc ?_ ?_ _ | refine below_drewN ?_ _ | refine Below.drew ?_ | refine Below.setCell ?_ ?_ _ | refine Below.trans ?_ (Below.mono (by with_reducible assumption) ?_)) | go_size))) (one_ints l) (by simp only [maxLen]; omega) (by omega) (by go_size) ?_; intro v1 w1 hown1 hg1 hat1)
    have hb1 : Below w.heap.size w w1 := (by (repeat' first | with_reducible (first | exact Below.refl _ _ | assumption | refine Below.alloc ?_ ?_ _ | refine below_drewN ?_ _ | refine Below.drew ?_ | refine Below.setCell ?_ ?_ _ | refine Below.trans ?_ (Below.mono (by with_reducible assumption) ?_)) | go_size) : Below w.heap.size w _).grown hg1 (by go_size) (by intro k hk; have hk' : w.heap.size = k := (Option.some.inj hk); omega)
    go_ret
    exact ⟨_, rfl, by (show SL _ _ _ _ _ _; simpa using SL.of_own hown1), from_own hown1, (by simpa using hown1), hb1⟩
end Go.Proofs.Ytljcgcllhcdleaa
/- A row of one's own stays, when the heap grows. -/
namespace Go.Proofs.Ytljcgcllhcdleaa
open Go.RowKit
set_option linter.unusedSimpArgs false
set_option linter.unusedVariables false
theorem grown_of_below {w w' : World} (h : Below w.heap.size w w') (row : Option Nat) : w.grownBy w' row := ⟨h.os, h.tape, h.output, h.size, fun k hk _ => h.block k hk⟩
theorem owns_below {w w' : World} {base size n : Nat} {e : TypeId} {v : Value} {xs : List Value} (h : w.ownsRow base e size v n xs) (hb : Below w.heap.size w w') : w'.ownsRow base e size v n xs :=
  h.kept (grown_of_below hb none) (by cases v.ownBlock <;> simp)
end Go.Proofs.Ytljcgcllhcdleaa
/- eval.Arrays: a copy of all arrays, each in a row of its own. -/
namespace Go.Proofs.Ytljcgcllhcdleaa
open Go.RowKit
set_option linter.unusedSimpArgs false
set_option linter.unusedVariables false
/-- a slice of slices that reads as lists -/
def RLists (w : World) (B : Nat) (v : Value) (l : List (List Int)) : Prop :=
  ∃ vs : List Value, vs.length = l.length ∧ SL w B 1 v l.length vs ∧ ∀ (k : Nat) u a, vs[k]? = some u → l[k]? = some a → RInts w B u a
theorem RLists.at_ {w w' : World} {B : Nat} {v : Value} {l : List (List Int)} (h : RLists w B v l) (hb : Below w.heap.size w w') (hB : B ≤ w.heap.size) : RLists w' w'.heap.size v l := by
  obtain ⟨vs, h1, h2, h3⟩ := h
  exact ⟨vs, h1, SL.at_ h2 hb hB, fun k u a hu ha => SL.at_ (h3 k u a hu ha) hb hB⟩
/-- arrays of the call's own: the outer row holds vs; each of these has a row of its own, apart from all others -/
structure Arrs (w : World) (lo : Nat) (v : Value) (l : List (List Int)) (vs : List Value) : Prop where
  outer : w.ownsRow lo 42 1 v vs.length vs
  len : vs.length = l.length
  row : ∀ (k : Nat) u a, vs[k]? = some u → l[k]? = some a → w.ownsRow lo 3 1 u a.length (a.map (Value.int .i64))
  apart : ∀ (k k' : Nat) u u' b, vs[k]? = some u → vs[k']? = some u' → u.ownBlock = some b → u'.ownBlock = some b → k = k'
  out : ∀ (k : Nat) u b, vs[k]? = some u → u.ownBlock = some b → v.ownBlock ≠ some b
theorem Arrs.nil_ (w : World) (lo : Nat) : Arrs w lo (.slice none 0 0) [] [] :=
  ⟨World.ownsRow_nil _ _ _ _, rfl, fun k u a h => by simp at h, fun k k' u u' b h => by simp at h, fun k u b h => by simp at h⟩
theorem Arrs.stays {w w' : World} {lo : Nat} {v : Value} {l : List (List Int)} {vs : List Value} (h : Arrs w lo v l vs) (hb : Below w.heap.size w w') : Arrs w' lo v l vs :=
  ⟨owns_below h.outer hb, h.len, fun k u a hu ha => owns_below (h.row k u a hu ha) hb, h.apart, h.out⟩
/-- one array more -/
theorem Arrs.push {w w1 w2 : World} {lo : Nat} {v v' u : Value} {l : List (List Int)} {vs : List Value} {a : List Int} (h : Arrs w lo v l vs) (hlo : lo ≤ w.heap.size) (hb : Below w.heap.size w w1)
    (hu : w1.ownsRow w.heap.size 3 1 u a.length (a.map (Value.int .i64))) (hg : w1.grownBy w2 v.ownBlock) (hv : w2.ownsRow lo 42 1 v' (vs.length + 1) (vs ++ [u]))
    (hat : v'.ownBlock = v.ownBlock ∨ ∃ q, v'.ownBlock = some q ∧ w1.heap.size ≤ q) : Arrs w2 lo v' (l ++ [a]) (vs ++ [u]) := by
  have split : ∀ (k : Nat) x, (vs ++ [u])[k]? = some x → (k < vs.length ∧ vs[k]? = some x) ∨ (k = vs.length ∧ x = u) := fun k x hx => by
    rcases Nat.lt_or_ge k vs.length with hk | hk
    · rw [List.getElem?_append_left hk] at hx; exact .inl ⟨hk, hx⟩
    · rw [List.getElem?_append_right hk] at hx
      have : k - vs.length = 0 := by
        rcases Nat.eq_zero_or_pos (k - vs.length) with h0 | h0
        · exact h0
        · rw [List.getElem?_eq_none (by simp; omega)] at hx; cases hx
      rw [this] at hx
      exact .inr ⟨by omega, by simpa using hx.symm⟩
  have old : ∀ (k : Nat) x b, vs[k]? = some x → x.ownBlock = some b → b < w.heap.size := fun k x b hx hxb => by
    have hk : k < l.length := by
      have := (List.getElem?_eq_some_iff.1 hx).1
      rw [h.len] at this; exact this
    exact ((h.row k x _ hx (List.getElem?_eq_getElem hk)).lt b hxb).2
  refine ⟨by simpa using hv, by simp [h.len], fun k x y hx hy => ?_, fun k k' x x' b hx hx' hxb hxb' => ?_, fun k x b hx hxb => ?_⟩
  · rcases split k x hx with ⟨hk, hx⟩ | ⟨hk, rfl⟩
    · rw [List.getElem?_append_left (by rw [← h.len]; exact hk)] at hy
      refine (owns_below (h.row k x y hx hy) hb).kept hg ?_
      cases hxb : x.ownBlock with
      | none => exact .inl rfl
      | some b => exact .inr (fun e => h.out k x b hx hxb e.symm)
    · subst hk
      rw [h.len, List.getElem?_append_right (Nat.le_refl _)] at hy
      simp at hy
      subst hy
      have := hu.kept hg (by
        cases hxb : x.ownBlock with
        | none => exact .inl rfl
        | some b =>
          refine .inr fun e => ?_
          have h1 := (hu.lt b hxb).1
          have h2 := (h.outer.lt b e.symm).2
          omega)
      refine ⟨this.1, ?_⟩
      rcases this.2 with hn | ⟨g, cap, cur, e1, e2, e3⟩
      · exact .inl hn
      · exact .inr ⟨g, cap, cur, e1, by omega, e3⟩
  · rcases split k x hx with ⟨hk, hx1⟩ | ⟨hk, e1⟩ <;> rcases split k' x' hx' with ⟨hk', hx2⟩ | ⟨hk', e2⟩
    · exact h.apart k k' x x' b hx1 hx2 hxb hxb'
    · have h1 := old k x b hx1 hxb
      have h2 := (hu.lt b (e2 ▸ hxb')).1
      omega
    · have h1 := old k' x' b hx2 hxb'
      have h2 := (hu.lt b (e1 ▸ hxb)).1
      omega
    · omega
  · rcases split k x hx with ⟨hk, hx⟩ | ⟨hk, rfl⟩
    · rcases hat with e | ⟨q, e, hq⟩
      · rw [e]; exact h.out k x b hx hxb
      · rw [e]
        intro e2
        injection e2 with e2
        have h1 := old k x b hx hxb
        have := hb.size
        omega
    · have h1 := hu.lt b hxb
      rcases hat with e | ⟨q, e, hq⟩
      · rw [e]
        intro e2
        have := (h.outer.lt b e2).2
        omega
      · rw [e]
        intro e2
        injection e2 with e2
        omega
theorem slice_info : (Try.prog.info? 42).map (fun i => (i.zero, i.size, i.bytes)) = some (some (.slice none 0 0), 1, 24) := by kernel_rfl

set_option maxRecDepth 4000 in
set_option maxHeartbeats 1600000 in
theorem arrays_any (l : List (List Int)) (v : Value) (w : World) (h : RLists w w.heap.size v l) (hl : l.length ≤ 1073741824) (hls : ∀ a ∈ l, a.length ≤ 1073741824) :
    Calls Try.prog 71 #[v] w fun e w' => ∃ v' vs, e = .returned v' ∧ Arrs w' w.heap.size v' l vs ∧ Below w.heap.size w w' := by
  obtain ⟨vs, hlen, hsl, hel⟩ := h
  obtain ⟨i0, hi0, hz0, hz1, hz2⟩ := info_parts slice_info
  have II := Lib.hid (⟨hi0, hz0, hz1, hz2⟩ : _ ∧ _ ∧ _ ∧ _)
  have HL := Lib.hid hlen
  have HE := Lib.hid hel
  have HS := Lib.hid hsl
  have HM := Lib.hid hls
  obtain ⟨A, c, rfl, hc1, hc2⟩ := SL.form hsl
  unfold maxLen at hc2
  clear hi0 hz0 hz1 hz2 hlen hel hsl hls
  go_enter Try.func71, Try.ntmps71
  go_wp2_with fail
  go_loopw [3, 8] (fun o u wr => ∃ j : Nat, j ≤ l.length ∧ u = .int .i64 j ∧ Hid (∃ us, Arrs wr w.heap.size o (l.take j) us) ∧ Below w.heap.size w wr) (fun _ u _ => l.length - (intOf u).toNat)
  case atStart => exact ⟨0, by omega, rfl, ⟨[], Arrs.nil_ _ _⟩, by (repeat' first | with_reducible (first | exact Below.refl _ _ | assumption | refine Below.alloc ?_ ?_ _ | refine below_drewN ?_ _ | refine Below.drew ?_ | refine Below.setCell ?_ ?_ _ | refine Below.trans ?_ (Below.mono (by with_reducible assumption) ?_)) | go_size)⟩
  case round =>
    obtain ⟨j, hj, rfl, HA, hB⟩ := hrel
    obtain ⟨kd, kg, sd⟩ := bfacts hB
    by_cases hlt : j < l.length
    · have hu : ∃ u, vs[j]? = some u := ⟨vs[j]'(by rw [HL.out]; exact hlt), List.getElem?_eq_getElem _⟩
      obtain ⟨u, hu⟩ := hu
      obtain ⟨b, o, c', hv, hbw, _, _, hcell⟩ := SL.row HS.out (by omega : 0 < l.length)
      injection hv with hA _ hcr
      subst hA hcr
      have hc := hcell j u hu
      have hR := HE.out j u l[j] hu (List.getElem?_eq_getElem hlt)
      have HR := Lib.hid hR
      have ha := HM.out l[j] (List.getElem_mem hlt)
      have HT := Lib.hid (show l.take (j + 1) = l.take j ++ [l[j]] from by rw [List.take_succ_eq_append_getElem hlt])
      clear hu hcell hR
      generalize l[j] = a at *
      go_wp2_with fail
      refine (cloneInts_any a u _ (SL.at_ HR.out (by (repeat' first | with_reducible (first | exact Below.refl _ _ | assumption | refine Below.alloc ?_ ?_ _ | refine below_drewN ?_ _ | refine Below.drew ?_ | refine Below.setCell ?_ ?_ _ | refine Below.trans ?_ (Below.mono (by with_reducible assumption) ?_)) | go_size)) (Nat.le_refl _)) ha).mono ?_
      rintro e w1 ⟨v1, rfl, hR1, hF1, hO1, hb1⟩
      obtain ⟨kc1, kf1, s1⟩ := bfacts hb1
      (try simp only [World.size_alloc, World.size_setCell, World.size_drew, World.heap_drewN, Nat.add_one_le_iff] at s1)
      (try have z1 : w.heap.size < w1.heap.size := by omega)
      have B1 : Hid (Below w.heap.size w w1) := by (show Below _ _ _); (repeat' first | with_reducible (first | exact Below.refl _ _ | assumption | refine Below.alloc ?_ ?_ _ | refine below_drewN ?_ _ | refine Below.drew ?_ | refine Below.setCell ?_ ?_ _ | refine Below.trans ?_ (Below.mono (by with_reducible assumption) ?_)) | go_size)
      obtain ⟨kd1, kg1, _⟩ := bfacts B1.out
      obtain ⟨us, hus⟩ := HA.out
      obtain ⟨A1, c1, hv1, _, _⟩ := SL.form hR1
      subst hv1
      have HO := Lib.hid hO1
      have HU := Lib.hid hus
      have hul : us.length ≤ 1073741824 := by rw [hus.len, List.length_take]; omega
      have hB1 : Below wr.heap.size wr w1 := by (repeat' first | with_reducible (first | exact Below.refl _ _ | assumption | refine Below.alloc ?_ ?_ _ | refine below_drewN ?_ _ | refine Below.drew ?_ | refine Below.setCell ?_ ?_ _ | refine Below.trans ?_ (Below.mono (by with_reducible assumption) ?_)) | go_size)
      clear hR1 hF1 hO1 hus
      go_wp2_with (at_builtin; refine wpList_append_own_at _ rfl (.tmp 12) (.tmp 15) _ rfl w.heap.size 42 i0 (.slice none 0 0) 1 24 Try.underlying43 II.out.1 II.out.2.1 II.out.2.2.1 II.out.2.2.2 rfl (by decide) _ _ _ rfl ((owns_below HU.out.outer hB1).alloc _) ⟨w1.heap.size, 0, none⟩ 1 1 [.slice A1 a.length c1] rfl rfl (cell_one_new _ _ _) (fun x hx => by simp at hx; subst hx; rfl) (by unfold maxLen; omega) (by omega) (by simp; omega) ?_; intro v2 w2 hown2 hg2 hn2 hat2)
      have hP := HU.out.push hB.size (hB1.alloc hB1.size (.cells #[.slice A1 a.length c1] 42)) (HO.out.alloc _) hg2 hown2 (hat2.imp id fun e => ⟨_, e, by simp⟩)
      rw [← HT.out] at hP
      have hB2 := ((hB.trans (hB1.mono hB.size)).alloc (by omega) (.cells #[.slice A1 a.length c1] 42)).grown hg2 (by simp; omega) (fun q hq => (HU.out.outer.lt q hq).1)
      go_roundw
      case rel => exact ⟨j + 1, by omega, by go_num, ⟨_, hP⟩, hB2⟩
      case measure => simp [intOf]; omega
    · have hje : j = l.length := by omega
      subst hje
      go_wp2_with fail
      go_ret
      obtain ⟨us, hus⟩ := HA.out
      rw [List.take_length] at hus
      exact ⟨_, us, rfl, hus, hB⟩
end Go.Proofs.Ytljcgcllhcdleaa
/- Chapter 1: what is made of two words. -/
namespace Go.Proofs.Ytljcgcllhcdleaa
open Go.RowKit
set_option linter.unusedSimpArgs false
set_option linter.unusedVariables false
theorem op_cases (op : Int) : op = 1 ∨ op = 2 ∨ op = 3 ∨ op = 4 ∨ op = 5 ∨ op = 6 ∨ op = 7 ∨ op = 8 ∨ op = 9 ∨ op = 10 ∨ op = 11 ∨ op = 12 ∨ (op < 1 ∨ 12 < op) := by omega
theorem u32_low (a : Int) : IntKind.u32.wrap a = ((Ev.low a : Nat) : Int) := by rw [IntKind.wrap_u32]; unfold Ev.low; omega

theorem cast_shl (x k : Nat) : (x : Int) * 2 ^ k % 4294967296 = ((Ev.wshl x k : Nat) : Int) := by
  unfold Ev.wshl
  rw [Int.natCast_emod, Int.natCast_mul, Int.natCast_pow]
  rfl
theorem cast_shr (x k : Nat) : (x : Int) / 2 ^ k = ((x / 2 ^ k : Nat) : Int) := by
  rw [Int.natCast_ediv, Int.natCast_pow]
  rfl
theorem wrap_shr {x k : Nat} (h : x < 4294967296) : wrap64 ((x : Int) / 2 ^ k) = ((Ev.wshr x k : Nat) : Int) := by
  have hle : x / 2 ^ k ≤ x := Nat.div_le_self _ _
  rw [cast_shr]
  unfold Ev.wshr
  generalize x / 2 ^ k = z at *
  exact IntWalk.wrap64_in _ ⟨by omega, by omega⟩
theorem wrap_div {x y : Nat} (h : x < 4294967296) : (x : Int) / (y : Int) % 4294967296 = ((x / y : Nat) : Int) := by
  have hle : x / y ≤ x := Nat.div_le_self _ _
  rw [← Int.natCast_ediv]
  generalize x / y = z at *
  omega
theorem wrap_mod {x y : Nat} (h : x < 4294967296) : wrap64 ((x : Int) % (y : Int)) = ((x % y : Nat) : Int) := by
  have hle : x % y ≤ x := Nat.mod_le _ _
  rw [← Int.natCast_emod]
  generalize x % y = z at *
  exact IntWalk.wrap64_in _ ⟨by omega, by omega⟩
theorem twoN_bad {op : Int} (x y : Nat) (h : op < 1 ∨ 12 < op) : Ev.twoN op x y = 0 := by
  unfold Ev.twoN
  rw [if_neg (show ¬ op = 1 by omega), if_neg (show ¬ op = 2 by omega), if_neg (show ¬ op = 3 by omega), if_neg (show ¬ op = 4 by omega), if_neg (show ¬ op = 5 by omega), if_neg (show ¬ op = 6 by omega), if_neg (show ¬ op = 7 by omega), if_neg (show ¬ op = 8 by omega), if_neg (show ¬ op = 9 by omega), if_neg (show ¬ op = 10 by omega), if_neg (show ¬ op = 11 by omega), if_neg (show ¬ op = 12 by omega)]
theorem twoErr_bad {op : Int} (h : op < 1 ∨ 12 < op) : Ev.twoErr op = 1 := by unfold Ev.twoErr; rw [if_neg (by omega)]

set_option maxHeartbeats 4000000 in
theorem two_any (op a b : Int) (w : World) :
    Calls Try.prog 72 #[.int .i64 op, .int .i64 a, .int .i64 b] w fun e w' => e = .returned (.tuple #[.int .i64 (Ev.two op a b), .int .i64 (Ev.twoErr op)]) ∧ Below w.heap.size w w' := by
  have ha := u32_low a
  have hb := u32_low b
  have la := Ev.low_lt a
  have lb := Ev.low_lt b
  unfold Ev.two
  generalize Ev.low a = x at *
  generalize Ev.low b = y at *
  have hy : y % 32 < 32 := Nat.mod_lt _ (by decide)
  have q1 := u32_and_nat x y la lb
  have q2 := u32_or_nat x y la lb
  have q3 := u32_xor_nat x y la lb
  have l1 : x &&& y < 4294967296 := Ev.and_lt la
  have l2 : x ||| y < 4294967296 := Ev.or_lt la lb
  have l3 : x ^^^ y < 4294967296 := Ev.xor_lt la lb
  have q4 : bits BinOp.and IntKind.u32 (y : Int) 31 = ((y % 32 : Nat) : Int) := by
    have := u32_and_nat y 31 lb (by decide)
    have e := Nat.and_two_pow_sub_one_eq_mod y 5
    simp at e
    rw [e] at this
    exact this
  generalize hz1 : x &&& y = z1 at *
  generalize hz2 : x ||| y = z2 at *
  generalize hz3 : x ^^^ y = z3 at *
  have HZ := Lib.hid (And.intro hz1 (And.intro hz2 hz3))
  clear hz1 hz2 hz3
  rcases op_cases op with rfl | rfl | rfl | rfl | rfl | rfl | rfl | rfl | rfl | rfl | rfl | rfl | h
  rotate_left 12
  · rw [twoN_bad _ _ h, twoErr_bad h]
    clear HZ q1 q2 q3 q4
    go_enter Try.func72, Try.ntmps72
    go_wp2
    all_goals (go_ret2; exact ⟨rfl, by (repeat' first | with_reducible (first | exact Below.refl _ _ | assumption | refine Below.alloc ?_ ?_ _ | refine below_drewN ?_ _ | refine Below.drew ?_ | refine Below.setCell ?_ ?_ _ | refine Below.trans ?_ (Below.mono (by with_reducible assumption) ?_)) | go_size)⟩)
  all_goals
    go_enter Try.func72, Try.ntmps72
    go_wp2
  all_goals (try go_ret2)
  all_goals (try (refine ⟨congrArg Ending.returned (congrArg Value.tuple ?_), by (repeat' first | with_reducible (first | exact Below.refl _ _ | assumption | refine Below.alloc ?_ ?_ _ | refine below_drewN ?_ _ | refine Below.drew ?_ | refine Below.setCell ?_ ?_ _ | refine Below.trans ?_ (Below.mono (by with_reducible assumption) ?_)) | go_size)⟩))
  all_goals (try simp [Ev.twoErr, Ev.twoN])
  all_goals (try (obtain ⟨rfl, rfl, rfl⟩ := HZ.out))
  all_goals (try (first | omega | (unfold Ev.wadd; omega) | (unfold Ev.wsub; omega) | (split <;> omega)))
  all_goals
    first
    | exact cast_shl _ _
    | exact wrap_shr la
    | (have h0 : 0 < y := by assumption
       rw [if_neg (by omega)]
       exact wrap_div la)
    | (have h0 : 0 < y := by assumption
       rw [if_neg (by omega)]
       exact wrap_mod la)
    | (have h0 : ((x : Int) == (y : Int)) = true := by assumption
       rw [beq_iff_eq] at h0
       rw [if_pos (by omega)]; rfl)
    | (have h0 : ((x : Int) == (y : Int)) = false := by assumption
       rw [beq_eq_false_iff_ne] at h0
       rw [if_neg (by omega)]; rfl)
end Go.Proofs.Ytljcgcllhcdleaa
/- Chapter 1: Is, Sel, and the reference's. -/
namespace Go.Proofs.Ytljcgcllhcdleaa
open Go.RowKit
set_option linter.unusedSimpArgs false
set_option linter.unusedVariables false

set_option maxHeartbeats 400000 in
theorem isWord_any (n : Int) (w : World) :
    Calls Try.prog 90 #[.int .i64 n] w fun e w' => e = .returned (.bool (Ev.isWord n)) ∧ Below w.heap.size w w' := by
  go_enter Try.func90, Try.ntmps90
  go_wp2
  all_goals (go_ret; refine ⟨?_, by (repeat' first | with_reducible (first | exact Below.refl _ _ | assumption | refine Below.alloc ?_ ?_ _ | refine below_drewN ?_ _ | refine Below.drew ?_ | refine Below.setCell ?_ ?_ _ | refine Below.trans ?_ (Below.mono (by with_reducible assumption) ?_)) | go_size)⟩; simp [Ev.isWord]; try omega)

theorem sel_yes {a : Int} (b c : Int) (h : ((Ev.low a : Nat) : Int) ≠ 0) : Ev.sel a b c = ((Ev.low b : Nat) : Int) := by unfold Ev.sel; rw [if_neg (by omega)]
theorem sel_no {a : Int} (b c : Int) (h : ((Ev.low a : Nat) : Int) = 0) : Ev.sel a b c = ((Ev.low c : Nat) : Int) := by unfold Ev.sel; rw [if_pos (by omega)]
set_option maxHeartbeats 400000 in
theorem sel_any (a b c : Int) (w : World) :
    Calls Try.prog 73 #[.int .i64 a, .int .i64 b, .int .i64 c] w fun e w' => e = .returned (.int .i64 (Ev.sel a b c)) ∧ Below w.heap.size w w' := by
  have ha := u32_low a
  have hb := u32_low b
  have hc := u32_low c
  have lb := Ev.low_lt b
  have lc := Ev.low_lt c
  have s1 := Lib.hid (@sel_yes a b c)
  have s2 := Lib.hid (@sel_no a b c)
  generalize Ev.low a = x at *
  generalize Ev.low b = y at *
  generalize Ev.low c = z at *
  generalize Ev.sel a b c = r at *
  go_enter Try.func73, Try.ntmps73
  go_wp2
  all_goals
    go_ret
    (try simp only [bne_iff_ne, ne_eq, bne_eq_false_iff_eq, beq_iff_eq, beq_eq_false_iff_ne] at *)
    refine ⟨?_, by (repeat' first | with_reducible (first | exact Below.refl _ _ | assumption | refine Below.alloc ?_ ?_ _ | refine below_drewN ?_ _ | refine Below.drew ?_ | refine Below.setCell ?_ ?_ _ | refine Below.trans ?_ (Below.mono (by with_reducible assumption) ?_)) | go_size)⟩
    first
    | (have h0 : ¬ ((x : Int) = 0) := by omega
       rw [s1.out h0]; rfl)
    | (have h0 : ((x : Int) = 0) := by omega
       rw [s2.out h0]; rfl)

set_option maxHeartbeats 400000 in
theorem low_any (a : Int) (w : World) :
    Calls Try.prog 56 #[.int .i64 a] w fun e w' => e = .returned (.int .i64 ((Ev.low a : Nat) : Int)) ∧ Below w.heap.size w w' := by
  have ha := u32_low a
  have la := Ev.low_lt a
  generalize Ev.low a = x at *
  go_enter Try.func56, Try.ntmps56
  go_wp2
  go_ret
  exact ⟨rfl, by (repeat' first | with_reducible (first | exact Below.refl _ _ | assumption | refine Below.alloc ?_ ?_ _ | refine below_drewN ?_ _ | refine Below.drew ?_ | refine Below.setCell ?_ ?_ _ | refine Below.trans ?_ (Below.mono (by with_reducible assumption) ?_)) | go_size)⟩

set_option maxHeartbeats 400000 in
theorem refSel_any (a b c : Int) (w : World) :
    Calls Try.prog 88 #[.int .i64 a, .int .i64 b, .int .i64 c] w fun e w' => e = .returned (.int .i64 (Ev.sel a b c)) ∧ Below w.heap.size w w' := by
  have y1 := Lib.hid (@sel_yes a b c)
  have y2 := Lib.hid (@sel_no a b c)
  generalize hr : Ev.sel a b c = r at *
  clear hr
  by_cases h : ((Ev.low a : Nat) : Int) = 0
  · have h1 : (((Ev.low a : Nat) : Int) == 0) = true := by simpa using h
    go_enter Try.func88, Try.ntmps88
    go_wp2_with fail
    refine (low_any a _).mono ?_
    rintro e w1 ⟨rfl, hb1⟩
    obtain ⟨kc1, kf1, s1⟩ := bfacts hb1
    (try simp only [World.size_alloc, World.size_setCell, World.size_drew, World.heap_drewN, Nat.add_one_le_iff] at s1)
    (try have z1 : w.heap.size < w1.heap.size := by omega)
    have B1 : Hid (Below w.heap.size w w1) := by (show Below _ _ _); (repeat' first | with_reducible (first | exact Below.refl _ _ | assumption | refine Below.alloc ?_ ?_ _ | refine below_drewN ?_ _ | refine Below.drew ?_ | refine Below.setCell ?_ ?_ _ | refine Below.trans ?_ (Below.mono (by with_reducible assumption) ?_)) | go_size)
    obtain ⟨kd1, kg1, _⟩ := bfacts B1.out
    go_wp2_with fail
    refine (low_any c _).mono ?_
    rintro e w2 ⟨rfl, hb2⟩
    obtain ⟨kc2, kf2, s2⟩ := bfacts hb2
    (try simp only [World.size_alloc, World.size_setCell, World.size_drew, World.heap_drewN, Nat.add_one_le_iff] at s2)
    (try have z2 : w.heap.size < w2.heap.size := by omega)
    have B2 : Hid (Below w.heap.size w w2) := by (show Below _ _ _); (repeat' first | with_reducible (first | exact Below.refl _ _ | assumption | refine Below.alloc ?_ ?_ _ | refine below_drewN ?_ _ | refine Below.drew ?_ | refine Below.setCell ?_ ?_ _ | refine Below.trans ?_ (Below.mono (by with_reducible assumption) ?_)) | go_size)
    obtain ⟨kd2, kg2, _⟩ := bfacts B2.out
    go_wp2_with fail
    go_ret
    exact ⟨by rw [y2.out h]; rfl, by (repeat' first | with_reducible (first | exact Below.refl _ _ | assumption | refine Below.alloc ?_ ?_ _ | refine below_drewN ?_ _ | refine Below.drew ?_ | refine Below.setCell ?_ ?_ _ | refine Below.trans ?_ (Below.mono (by with_reducible assumption) ?_)) | go_size)⟩
  · have h1 : (((Ev.low a : Nat) : Int) == 0) = false := by simpa using h
    go_enter Try.func88, Try.ntmps88
    go_wp2_with fail
    refine (low_any a _).mono ?_
    rintro e w1 ⟨rfl, hb1⟩
    obtain ⟨kc1, kf1, s1⟩ := bfacts hb1
    (try simp only [World.size_alloc, World.size_setCell, World.size_drew, World.heap_drewN, Nat.add_one_le_iff] at s1)
    (try have z1 : w.heap.size < w1.heap.size := by omega)
    have B1 : Hid (Below w.heap.size w w1) := by (show Below _ _ _); (repeat' first | with_reducible (first | exact Below.refl _ _ | assumption | refine Below.alloc ?_ ?_ _ | refine below_drewN ?_ _ | refine Below.drew ?_ | refine Below.setCell ?_ ?_ _ | refine Below.trans ?_ (Below.mono (by with_reducible assumption) ?_)) | go_size)
    obtain ⟨kd1, kg1, _⟩ := bfacts B1.out
    go_wp2_with fail
    refine (low_any b _).mono ?_
    rintro e w2 ⟨rfl, hb2⟩
    obtain ⟨kc2, kf2, s2⟩ := bfacts hb2
    (try simp only [World.size_alloc, World.size_setCell, World.size_drew, World.heap_drewN, Nat.add_one_le_iff] at s2)
    (try have z2 : w.heap.size < w2.heap.size := by omega)
    have B2 : Hid (Below w.heap.size w w2) := by (show Below _ _ _); (repeat' first | with_reducible (first | exact Below.refl _ _ | assumption | refine Below.alloc ?_ ?_ _ | refine below_drewN ?_ _ | refine Below.drew ?_ | refine Below.setCell ?_ ?_ _ | refine Below.trans ?_ (Below.mono (by with_reducible assumption) ?_)) | go_size)
    obtain ⟨kd2, kg2, _⟩ := bfacts B2.out
    go_wp2_with fail
    go_ret
    exact ⟨by rw [y1.out h]; rfl, by (repeat' first | with_reducible (first | exact Below.refl _ _ | assumption | refine Below.alloc ?_ ?_ _ | refine below_drewN ?_ _ | refine Below.drew ?_ | refine Below.setCell ?_ ?_ _ | refine Below.trans ?_ (Below.mono (by with_reducible assumption) ?_)) | go_size)⟩
end Go.Proofs.Ytljcgcllhcdleaa
