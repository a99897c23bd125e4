import Derived.Test.YtpbflgemhcaooaaDoorPk20
import Derived.Test.YtpbflgemhcaooaaDoorPk23
import Derived.Test.YtpbflgemhcaooaaDoorPk4
import Derived.BigQuiet
import Derived.Deep.QuietTactic
import Derived.WalkSmall
import Derived.Test.YtpbflgemhcaooaaDoorPk24
import Derived.Deep.DeepCutAuto
/- Chapter 5, plainly: words stay words; names stay names. -/
namespace Ev
set_option linter.unusedVariables false
def W32 (n : Int) : Prop := 0 ≤ n ∧ n ≤ 4294967295
def WN (l : Nms) : Prop := ∀ p ∈ l, W32 p.2
def WA (a : Ars) : Prop := ∀ x ∈ a, ∀ v ∈ x, W32 v
theorem w32_zero : W32 0 := ⟨Int.le_refl 0, by omega⟩
theorem getN_word {l : Nms} (h : WN l) (n : List UInt8) : W32 (getN l n) := by
  induction l with
  | nil => exact w32_zero
  | cons p l ih =>
    obtain ⟨m, v⟩ := p
    unfold getN
    split
    · exact h (m, v) (by simp)
    · exact ih (fun q hq => h q (by simp [hq]))
theorem setN_word {l : Nms} (h : WN l) (n : List UInt8) {x : Int} (hx : W32 x) : WN (setN l n x) := by
  induction l with
  | nil => exact h
  | cons p l ih =>
    obtain ⟨m, v⟩ := p
    have h2 := ih (fun q hq => h q (by simp [hq]))
    unfold setN
    split
    · intro q hq
      rcases List.mem_cons.1 hq with rfl | hq
      · exact hx
      · exact h q (by simp [hq])
    · intro q hq
      rcases List.mem_cons.1 hq with rfl | hq
      · exact h (m, v) (by simp)
      · exact h2 q hq
theorem setN_fst : ∀ (l : Nms) (n : List UInt8) (x : Int), (setN l n x).map Prod.fst = l.map Prod.fst
  | [], _, _ => rfl
  | (m, v) :: r, n, x => by
    unfold setN
    split
    · rfl
    · simp [setN_fst r n x]
theorem nat_w32 {n : Nat} (h : n < 4294967296) : W32 (n : Int) := ⟨by omega, by omega⟩
theorem twoN_w32 (op : Int) {x y : Nat} (hx : x < 4294967296) (hy : y < 4294967296) : twoN op x y < 4294967296 := by
  unfold twoN
  by_cases h1 : op = 1
  · rw [if_pos h1]; exact Nat.mod_lt _ (by decide)
  rw [if_neg h1]
  by_cases h2 : op = 2
  · rw [if_pos h2]; exact wsub_lt _ _
  rw [if_neg h2]
  by_cases h3 : op = 3
  · rw [if_pos h3]; exact and_lt hx
  rw [if_neg h3]
  by_cases h4 : op = 4
  · rw [if_pos h4]; exact or_lt hx hy
  rw [if_neg h4]
  by_cases h5 : op = 5
  · rw [if_pos h5]; exact xor_lt hx hy
  rw [if_neg h5]
  by_cases h6 : op = 6
  · rw [if_pos h6]; exact Nat.mod_lt _ (by decide)
  rw [if_neg h6]
  by_cases h7 : op = 7
  · rw [if_pos h7]; exact Nat.lt_of_le_of_lt (Nat.div_le_self _ _) hx
  rw [if_neg h7]
  by_cases h8 : op = 8
  · rw [if_pos h8]; exact Nat.mod_lt _ (by decide)
  rw [if_neg h8]
  by_cases h9 : op = 9
  · rw [if_pos h9]
    by_cases h : y = 0
    · rw [if_pos h]; decide
    · rw [if_neg h]; exact Nat.lt_of_le_of_lt (Nat.div_le_self _ _) hx
  rw [if_neg h9]
  by_cases h10 : op = 10
  · rw [if_pos h10]
    by_cases h : y = 0
    · rw [if_pos h]; exact hx
    · rw [if_neg h]; exact Nat.lt_of_le_of_lt (Nat.mod_le _ _) hx
  rw [if_neg h10]
  by_cases h11 : op = 11
  · rw [if_pos h11]
    by_cases h : x < y
    · rw [if_pos h]; decide
    · rw [if_neg h]; decide
  rw [if_neg h11]
  by_cases h12 : op = 12
  · rw [if_pos h12]
    by_cases h : x = y
    · rw [if_pos h]; decide
    · rw [if_neg h]; decide
  rw [if_neg h12]
  decide
theorem two_w32 (op a b : Int) : W32 (two op a b) := nat_w32 (twoN_w32 op (low_lt a) (low_lt b))
theorem sel_w32 (a b c : Int) : W32 (sel a b c) := by
  unfold sel
  split
  · exact nat_w32 (low_lt _)
  · exact nat_w32 (low_lt _)
theorem exE_word {A : List Par} {a : Ars} {l : Nms} (hl : WN l) (ha : WA a) {e : Ex} (h : WfE e) {x : Int} (hx : exE A a l e = some x) : W32 x := by
  rw [exE_eq] at hx
  cases hs : exsE A a l e.args with
  | none => rw [hs] at hx; cases hx
  | some v =>
    rw [hs] at hx
    dsimp only at hx
    split at hx
    · injection hx with hx; rw [← hx]; exact getN_word hl _
    split at hx
    · injection hx with hx; rw [← hx]; exact two_w32 _ _ _
    split at hx
    · injection hx with hx; rw [← hx]; exact sel_w32 _ _ _
    split at hx
    · split at hx
      · injection hx with hx
        rw [← hx, List.getD_eq_getElem?_getD]
        cases h1 : (a.getD (arrI A e.name) [])[(v.getD 0 0).toNat]? with
        | none => exact w32_zero
        | some y =>
          refine ha (a.getD (arrI A e.name) []) ?_ y (List.mem_of_getElem? h1)
          rw [List.getD_eq_getElem?_getD] at h1 ⊢
          cases h2 : a[arrI A e.name]? with
          | none => rw [h2] at h1; simp at h1
          | some z => exact List.mem_of_getElem? h2
      · cases hx
    · injection hx with hx
      rename_i k2 k3 k4 k5
      cases h with
      | num n h1 h2 => rw [← hx]; exact ⟨h1, by show n ≤ _; omega⟩
      | name s h1 => exact absurd rfl k2
      | op n a b h1 h2 h3 h4 => exact absurd rfl k3
      | sel a b c h1 h2 h3 => exact absurd rfl k4
      | «at» s a h1 h2 => exact absurd rfl k5
theorem exsE_word {A : List Par} {a : Ars} {l : Nms} (hl : WN l) (ha : WA a) : ∀ {es : List Ex} (h : ∀ e ∈ es, WfE e) {v : List Int}, exsE A a l es = some v → v.length = es.length ∧ ∀ x ∈ v, W32 x
  | [], _, v, hv => by
    rw [exsE_nil] at hv
    injection hv with hv
    subst hv
    exact ⟨rfl, fun x hx => by cases hx⟩
  | e :: es, h, v, hv => by
    rw [exsE_cons] at hv
    cases h1 : exE A a l e with
    | none => rw [h1] at hv; cases hv
    | some x =>
      rw [h1] at hv
      dsimp only at hv
      cases h2 : exsE A a l es with
      | none => rw [h2] at hv; cases hv
      | some r =>
        rw [h2] at hv
        injection hv with hv
        subst hv
        have ⟨h3, h4⟩ := exsE_word hl ha (fun e he => h e (by simp [he])) h2
        refine ⟨by simp [h3], fun y hy => ?_⟩
        rcases List.mem_cons.1 hy with rfl | hy
        · exact exE_word hl ha (h e (by simp)) h1
        · exact h4 y hy
theorem getD_word {v : List Int} (h : ∀ x ∈ v, W32 x) (n : Nat) : W32 (v.getD n 0) := by
  rw [List.getD_eq_getElem?_getD]
  cases e : v[n]? with
  | none => exact w32_zero
  | some x => exact h x (List.mem_of_getElem? e)
/-- what a statement keeps -/
structure Pres (l : Nms) (a : Ars) (o : EO) : Prop where
  wn : WN o.l
  wa : WA o.a
  sz : o.a.map List.length = a.map List.length
  res : ∀ v, o.e = some (some v) → W32 v
  nm : ∃ pre, o.l.map Prod.fst = pre ++ l.map Prod.fst
theorem Pres.id_ {l : Nms} {a : Ars} (hl : WN l) (ha : WA a) : Pres l a ⟨l, a, none⟩ := ⟨hl, ha, rfl, fun v h => (by cases h), [], rfl⟩
theorem back_fst {l : Nms} {o : EO} (h : ∃ pre, o.l.map Prod.fst = pre ++ l.map Prod.fst) : (o.back l).l.map Prod.fst = l.map Prod.fst := by
  obtain ⟨pre, h⟩ := h
  have hl : o.l.length = pre.length + l.length := by have := congrArg List.length h; simpa using this
  show (o.l.drop (o.l.length - l.length)).map Prod.fst = _
  rw [List.map_drop, h, show o.l.length - l.length = pre.length by omega, List.drop_left]
theorem Pres.back {l l0 : Nms} {a : Ars} {o : EO} (h : Pres l a o) (h0 : ∃ pre, l.map Prod.fst = pre ++ l0.map Prod.fst) : Pres l0 a (o.back l0) := by
  obtain ⟨p1, h1⟩ := h.nm
  obtain ⟨p2, h2⟩ := h0
  exact ⟨fun p hp => h.wn p (List.mem_of_mem_drop hp), h.wa, h.sz, h.res, [], back_fst ⟨p1 ++ p2, by rw [h1, h2, List.append_assoc]⟩⟩
theorem Pres.trans {l : Nms} {a : Ars} {o o' : EO} (h : Pres l a o) (k : Pres o.l o.a o') : Pres l a o' := by
  obtain ⟨p1, h1⟩ := h.nm
  obtain ⟨p2, h2⟩ := k.nm
  exact ⟨k.wn, k.wa, k.sz.trans h.sz, k.res, p2 ++ p1, by rw [h2, h1, List.append_assoc]⟩
theorem times_pres {f : Int → Nms → Ars → EO} {m : Int} {M : List (List UInt8)} (h : ∀ j l a, 0 ≤ j → j < m → WN l → WA a → l.map Prod.fst = M → Pres l a (f j l a) ∧ (f j l a).l.map Prod.fst = M) : ∀ (n : Nat) (j : Int) (l : Nms) (a : Ars), 0 ≤ j → j + n ≤ m → WN l → WA a → l.map Prod.fst = M → Pres l a (timesE f n j l a) ∧ (timesE f n j l a).l.map Prod.fst = M
  | 0, j, l, a, _, _, hl, ha, hM => ⟨Pres.id_ hl ha, hM⟩
  | n + 1, j, l, a, h0, hj, hl, ha, hM => by
    have ⟨h1, h2⟩ := h j l a h0 (by omega) hl ha hM
    unfold timesE
    split
    · exact ⟨h1, h2⟩
    · have ⟨h3, h4⟩ := times_pres h n (j + 1) _ _ (by omega) (by omega) h1.wn h1.wa h2
      exact ⟨h1.trans h3, h4⟩
/-- the names behind a statement -/
def nextN (l : List (List UInt8)) (t : St1) (o : EO) : List (List UInt8) := if t.kind = 1 ∧ o.e = none then t.name :: l else l
theorem set_words {a : Ars} (ha : WA a) (k j : Nat) {y : Int} (hy : W32 y) : WA (a.set k ((a.getD k []).set j y)) := by
  intro x hx v hv
  rcases List.mem_or_eq_of_mem_set hx with h | h
  · exact ha x h v hv
  · subst h
    rcases List.mem_or_eq_of_mem_set hv with h | h
    · rw [List.getD_eq_getElem?_getD] at h
      cases e : a[k]? with
      | none => rw [e] at h; simp at h
      | some z => rw [e] at h; exact ha z (List.mem_of_getElem? e) v h
    · rw [h]; exact hy
theorem set_sizes (a : Ars) (k j : Nat) (y : Int) : (a.set k ((a.getD k []).set j y)).map List.length = a.map List.length := by
  apply List.ext_getElem?
  intro i
  rw [List.getElem?_map, List.getElem?_map, List.getElem?_set]
  split
  · rename_i e
    subst e
    split
    · rename_i h
      rw [List.getD_eq_getElem?_getD, List.getElem?_eq_getElem h]
      simp
    · rename_i h
      rw [List.getElem?_eq_none (by omega)]
  · rfl
mutual
theorem stE_pres (A : List Par) : ∀ (t : St1) (l : Nms) (a : Ars), WfS t → WN l → WA a → Pres l a (stE A l a t) ∧ (stE A l a t).l.map Prod.fst = nextN (l.map Prod.fst) t (stE A l a t)
  | .mk kind n nm sec args thn els, l, a, h, hl, ha => by
    have hw := wf_st h
    have w1 : ∀ e ∈ args, WfE e := hw.args
    have w2 : ∀ s ∈ thn, WfS s := hw.thn
    have w3 : ∀ s ∈ els, WfS s := hw.els
    have w4 : kind = 5 → 0 ≤ n ∧ n ≤ 8 := fun e => by
      have hk := hw.kinds
      simp only [St1.kind, St1.n] at hk
      omega
    have hn1 : ∀ o : EO, ¬ o.e = none → nextN (l.map Prod.fst) (.mk kind n nm sec args thn els) o = l.map Prod.fst := fun o h => if_neg (fun e => h e.2)
    have hn2 : ¬ kind = 1 → ∀ o : EO, nextN (l.map Prod.fst) (.mk kind n nm sec args thn els) o = l.map Prod.fst := fun h o => if_neg (fun e => h e.1)
    have hn3 : kind = 1 → ∀ o : EO, o.e = none → nextN (l.map Prod.fst) (.mk kind n nm sec args thn els) o = nm :: l.map Prod.fst := fun h o k => if_pos ⟨h, k⟩
    rw [stE]
    cases hs : exsE A a l args with
    | none =>
      dsimp only
      exact ⟨⟨hl, ha, rfl, fun v h => (by cases h), [], rfl⟩, by rw [hn1 _ (fun h => by cases h)]⟩
    | some v =>
      dsimp only
      have ⟨_, hv⟩ := exsE_word hl ha w1 hs
      by_cases k1 : kind = 1
      · rw [if_pos k1]
        refine ⟨⟨fun p hp => ?_, ha, rfl, fun v h => (by cases h), [nm], rfl⟩, by rw [hn3 k1 _ rfl]; rfl⟩
        rcases List.mem_cons.1 hp with rfl | hp
        · exact getD_word hv 0
        · exact hl p hp
      rw [if_neg k1]
      rw [hn2 k1]
      by_cases k2 : kind = 2
      · rw [if_pos k2]
        exact ⟨⟨setN_word hl nm (getD_word hv 0), ha, rfl, fun v h => (by cases h), [], setN_fst _ _ _⟩, setN_fst _ _ _⟩
      rw [if_neg k2]
      by_cases k3 : kind = 3
      · rw [if_pos k3]
        split
        · exact ⟨⟨hl, set_words ha _ _ (getD_word hv 1), set_sizes _ _ _ _, fun v h => (by cases h), [], rfl⟩, rfl⟩
        · exact ⟨⟨hl, ha, rfl, fun v h => (by cases h), [], rfl⟩, rfl⟩
      rw [if_neg k3]
      by_cases k4 : kind = 4
      · rw [if_pos k4]
        split
        · have p := blE_pres A thn l a w2 hl ha
          exact ⟨p.back ⟨[], rfl⟩, back_fst p.nm⟩
        · have p := blE_pres A els l a w3 hl ha
          exact ⟨p.back ⟨[], rfl⟩, back_fst p.nm⟩
      rw [if_neg k4]
      by_cases k5 : kind = 5
      · rw [if_pos k5]
        have hn := w4 k5
        refine times_pres (m := n) (M := l.map Prod.fst) (fun j l a h0 hj hl ha hM => ?_) n.toNat 0 l a (by omega) (by omega) hl ha rfl
        have p := blE_pres A thn ((nm, j) :: l) a w2 (fun p hp => by
          rcases List.mem_cons.1 hp with rfl | hp
          · exact ⟨h0, by show j ≤ 4294967295; omega⟩
          · exact hl p hp) ha
        have q := p.back (l0 := l) ⟨[nm], rfl⟩
        obtain ⟨p1, e1⟩ := p.nm
        exact ⟨q, (back_fst (l := l) ⟨p1 ++ [nm], by rw [e1]; simp⟩).trans hM⟩
      rw [if_neg k5]
      exact ⟨⟨hl, ha, rfl, fun x h => (by injection h with h; injection h with h; rw [← h]; exact getD_word hv 0), [], rfl⟩, rfl⟩
theorem blE_pres (A : List Par) : ∀ (ts : List St1) (l : Nms) (a : Ars), (∀ t ∈ ts, WfS t) → WN l → WA a → Pres l a (blE A l a ts)
  | [], l, a, _, hl, ha => by rw [blE]; exact Pres.id_ hl ha
  | t :: ts, l, a, h, hl, ha => by
    rw [blE]
    have p := (stE_pres A t l a (h t (by simp)) hl ha).1
    split
    · exact p
    · exact p.trans (blE_pres A ts _ _ (fun s hs => h s (by simp [hs])) p.wn p.wa)
end
/-! ### names -/
def NmOk (L : List Par) (l : Nms) : Prop := l.map Prod.fst = (L.map Par.name).reverse
theorem findP_mem {A : List Par} {n : List UInt8} {v : Par} (h : findP A n = some v) : v ∈ A ∧ v.name = n := by
  have key : ∀ k, 0 ≤ nameTo A n k → ∃ p, A[(nameTo A n k).toNat]? = some p ∧ p.name = n := by
    intro k
    induction k with
    | zero => intro h; exact absurd h (by show ¬ (0 : Int) ≤ -1; omega)
    | succ k ih =>
      intro h
      unfold nameTo at h ⊢
      split at h
      · rename_i hx
        rw [if_pos hx]
        cases e : A[k]? with
        | none => rw [e] at hx; cases hx
        | some p =>
          rw [e] at hx
          injection hx with hx
          exact ⟨p, by simpa using e, hx⟩
      · rename_i hx
        rw [if_neg hx]
        exact ih h
  by_cases h0 : nameI A n < 0
  · rw [findP_none h0] at h; cases h
  · obtain ⟨p, e1, e2⟩ := key A.length (by unfold nameI at h0; omega)
    unfold findP at h
    rw [if_neg h0] at h
    have h1 : A[(nameI A n).toNat]? = some p := e1
    rw [h1] at h
    injection h with h
    subst h
    exact ⟨List.mem_of_getElem? h1, e2⟩
theorem nextN_ok {L : List Par} {l : Nms} {t : St1} {o : EO} (h : NmOk L l) (h1 : o.l.map Prod.fst = nextN (l.map Prod.fst) t o) (he : o.e = none) : NmOk (nextL L t) o.l := by
  unfold NmOk at h ⊢
  rw [h1]
  unfold nextN nextL
  by_cases k : t.kind = 1
  · rw [if_pos ⟨k, he⟩, if_pos k, h]
    simp
  · rw [if_neg (fun e => k e.1), if_neg k]
    exact h
end Ev
/- Chapter 1: Two and Sel leave the world as it is. -/
namespace Go.Proofs.YtpbflgemhcaooaaDoor
open Go.RowKit
set_option linter.unusedSimpArgs false
set_option linter.unusedVariables false
set_option maxHeartbeats 400000 in
theorem sel_same (a b c : Int) (w : World) :
    Calls Tryd.prog 140 #[.int .i64 a, .int .i64 b, .int .i64 c] w fun e w' => e = .returned (.int .i64 (Ev.sel a b c)) ∧ w' = w := by
  have ha := u32_low a
  have hb := u32_low b
  have hc := u32_low c
  have lb := Ev.low_lt b
  have lc := Ev.low_lt c
  have s1 := Lib.hid (@sel_yes a b c)
  have s2 := Lib.hid (@sel_no a b c)
  generalize Ev.low a = x at *
  generalize Ev.low b = y at *
  generalize Ev.low c = z at *
  generalize Ev.sel a b c = r at *
  go_enter Tryd.func140, Tryd.ntmps140
  go_wp2
  all_goals
    go_ret
    (try simp only [bne_iff_ne, ne_eq, bne_eq_false_iff_eq, beq_iff_eq, beq_eq_false_iff_ne] at *)
    refine ⟨?_, by first | rfl | trivial⟩
    first
    | (have h0 : ¬ ((x : Int) = 0) := by omega
       rw [s1.out h0]; rfl)
    | (have h0 : ((x : Int) = 0) := by omega
       rw [s2.out h0]; rfl)

set_option maxHeartbeats 4000000 in
theorem two_same (op a b : Int) (w : World) :
    Calls Tryd.prog 139 #[.int .i64 op, .int .i64 a, .int .i64 b] w fun e w' => e = .returned (.tuple #[.int .i64 (Ev.two op a b), .int .i64 (Ev.twoErr op)]) ∧ w' = w := by
  have ha := u32_low a
  have hb := u32_low b
  have la := Ev.low_lt a
  have lb := Ev.low_lt b
  unfold Ev.two
  generalize Ev.low a = x at *
  generalize Ev.low b = y at *
  have hy : y % 32 < 32 := Nat.mod_lt _ (by decide)
  have q1 := u32_and_nat x y la lb
  have q2 := u32_or_nat x y la lb
  have q3 := u32_xor_nat x y la lb
  have l1 : x &&& y < 4294967296 := Ev.and_lt la
  have l2 : x ||| y < 4294967296 := Ev.or_lt la lb
  have l3 : x ^^^ y < 4294967296 := Ev.xor_lt la lb
  have q4 : bits BinOp.and IntKind.u32 (y : Int) 31 = ((y % 32 : Nat) : Int) := by
    have := u32_and_nat y 31 lb (by decide)
    have e := Nat.and_two_pow_sub_one_eq_mod y 5
    simp at e
    rw [e] at this
    exact this
  generalize hz1 : x &&& y = z1 at *
  generalize hz2 : x ||| y = z2 at *
  generalize hz3 : x ^^^ y = z3 at *
  have HZ := Lib.hid (And.intro hz1 (And.intro hz2 hz3))
  clear hz1 hz2 hz3
  rcases op_cases op with rfl | rfl | rfl | rfl | rfl | rfl | rfl | rfl | rfl | rfl | rfl | rfl | h
  rotate_left 12
  · rw [twoN_bad _ _ h, twoErr_bad h]
    clear HZ q1 q2 q3 q4
    go_enter Tryd.func139, Tryd.ntmps139
    go_wp2
    all_goals (go_ret2; exact ⟨rfl, rfl⟩)
  all_goals
    go_enter Tryd.func139, Tryd.ntmps139
    go_wp2
  all_goals (try go_ret2)
  all_goals (try (refine ⟨congrArg Ending.returned (congrArg Value.tuple ?_), rfl⟩))
  all_goals (try simp [Ev.twoErr, Ev.twoN])
  all_goals (try (obtain ⟨rfl, rfl, rfl⟩ := HZ.out))
  all_goals (try (first | omega | (unfold Ev.wadd; omega) | (unfold Ev.wsub; omega) | (split <;> omega)))
  all_goals
    first
    | exact cast_shl _ _
    | exact wrap_shr la
    | (have h0 : 0 < y := by assumption
       rw [if_neg (by omega)]
       exact wrap_div la)
    | (have h0 : 0 < y := by assumption
       rw [if_neg (by omega)]
       exact wrap_mod la)
    | (have h0 : ((x : Int) == (y : Int)) = true := by assumption
       rw [beq_iff_eq] at h0
       rw [if_pos (by omega)]; rfl)
    | (have h0 : ((x : Int) == (y : Int)) = false := by assumption
       rw [beq_eq_false_iff_ne] at h0
       rw [if_neg (by omega)]; rfl)
end Go.Proofs.YtpbflgemhcaooaaDoor
/- Callees that only read. -/
namespace Go.Proofs.YtpbflgemhcaooaaDoor
open Go.RowKit
/-- a quiet callee's contract, in a world that has been drawn from before -/
theorem quiet_at {P : Program} {f : FuncId} {args : Array Value} {w : World} {n a : Nat} {v : Value}
    (h : Calls P f args (w.drewN (a + n)) fun e w' => e = .returned v ∧ ∃ m, w' = (w.drewN (a + n)).drewN m) : Calls P f args (w.drewN (a + n)) fun e w'' => e = .returned v ∧ ∃ m, w'' = w.drewN (a + m) :=
  h.mono fun _ _ ⟨he, m, hm⟩ => ⟨he, n + m, by rw [hm, World.drewN_drewN, Nat.add_assoc]⟩
theorem quiet_below {P : Program} {f : FuncId} {args : Array Value} {w : World} {v : Value}
    (h : Calls P f args w fun e w' => e = .returned v ∧ ∃ n, w' = w.drewN n) : Calls P f args w fun e w' => e = .returned v ∧ Below w.heap.size w w' :=
  h.mono fun _ _ ⟨he, n, hw⟩ => ⟨he, hw ▸ below_drewN (Below.refl _ _) n⟩
theorem SL.dr {w : World} {B size n : Nat} {v : Value} {xs : List Value} (k : Nat) (h : SL w B size v n xs) : SL (w.drewN k) B size v n xs := h
end Go.Proofs.YtpbflgemhcaooaaDoor
/- eval: an expression's word. -/
namespace Ev
theorem wf_kinds {e : Ex} (h : WfE e) : (e.kind = 1 ∧ e.args.length = 0) ∨ (e.kind = 2 ∧ e.args.length = 0) ∨ (e.kind = 3 ∧ e.args.length = 2) ∨ (e.kind = 4 ∧ e.args.length = 3) ∨ (e.kind = 5 ∧ e.args.length = 1) := by
  cases h with
  | num n h1 h2 => exact .inl ⟨rfl, rfl⟩
  | name s h1 => exact .inr (.inl ⟨rfl, rfl⟩)
  | op n a b h1 h2 h3 h4 => exact .inr (.inr (.inl ⟨rfl, rfl⟩))
  | sel a b c h1 h2 h3 => exact .inr (.inr (.inr (.inl ⟨rfl, rfl⟩)))
  | «at» s a h1 h2 => exact .inr (.inr (.inr (.inr ⟨rfl, rfl⟩)))
/-- how an evaluation ended -/
def endX : Option Int → Option (Option Int)
  | none => some none
  | some _ => none
theorem hasN_mem : ∀ {l : Nms} {n : List UInt8}, n ∈ l.map Prod.fst → hasN l n
  | [], n, h => by cases h
  | (m, v) :: r, n, h => by
    rcases List.mem_cons.1 h with h | h
    · exact .inl h.symm
    · exact .inr (hasN_mem h)
theorem NmOk.has {L : List Par} {l : Nms} {n : List UInt8} {v : Par} (h : NmOk L l) (hf : findP L n = some v) : hasN l n := by
  obtain ⟨h1, h2⟩ := findP_mem hf
  apply hasN_mem
  rw [h, List.mem_reverse]
  exact List.mem_map.2 ⟨v, h1, h2⟩
end Ev
namespace Go.Proofs.YtpbflgemhcaooaaDoor
open Go.RowKit
set_option linter.unusedSimpArgs false
set_option linter.unusedVariables false
theorem evInt : (Tryd.prog.info? 3).map (fun i => (i.zero, i.size, i.bytes)) = some (some (.int .i64 0), 1, 8) := by kernel_rfl
abbrev TS (tb : Nat) : Nat → Prop := fun j => j = tb
/-- an evaluation at work -/
structure EvIn (w : World) (tb fb lo hi : Nat) (va v2 : Value) (vs : List Value) (A L : List Ev.Par) (a : Ev.Ars) (l : Ev.Nms) (bs : List Nat) : Prop where
  m : EvM w tb fb lo hi va v2 vs A a none
  c : Chain w bs l
  bl : ∀ c ∈ bs, hi ≤ c ∧ c ≠ tb
  nm : Ev.NmOk L l
  wn : Ev.WN l
  wa : Ev.WA a
theorem EvIn.to {w w' : World} {tb fb lo hi : Nat} {va v2 : Value} {vs : List Value} {A L : List Ev.Par} {a : Ev.Ars} {l : Ev.Nms} {bs : List Nat} (h : EvIn w tb fb lo hi va v2 vs A L a l bs) (hF : SFr (TS tb) w w') (hm : EvM w' tb fb lo hi va v2 vs A a none) : EvIn w' tb fb lo hi va v2 vs A L a l bs :=
  ⟨hm, h.c.same (fun b hb => hF.block b (h.c.lt b hb) (h.bl b hb).2), h.bl, h.nm, h.wn, h.wa⟩
theorem EvIn.on {w w' : World} {tb fb lo hi : Nat} {va v2 : Value} {vs : List Value} {A L : List Ev.Par} {a : Ev.Ars} {l : Ev.Nms} {bs : List Nat} (h : EvIn w tb fb lo hi va v2 vs A L a l bs) (hb : Below w.heap.size w w') : EvIn w' tb fb lo hi va v2 vs A L a l bs :=
  h.to (.of hb) (h.m.on hb)
theorem cell_sameE {w w' : World} {b o : Nat} (h : w'.heap[b]? = w.heap[b]?) : w'.cell? ⟨b, o, none⟩ = w.cell? ⟨b, o, none⟩ := by
  unfold World.cell?
  dsimp only
  rw [h]
theorem XAt.same {w w' : World} {b o : Nat} {e : Ev.Ex} {va : Value} (h : XAt w b o e va) (hs : w.heap.size ≤ w'.heap.size) (hb : w'.heap[b]? = w.heap[b]?) : XAt w' b o e va :=
  ⟨Nat.lt_of_lt_of_le h.lt hs, (cell_sameE hb).trans h.c0, (cell_sameE hb).trans h.c1, (cell_sameE hb).trans h.c2, (cell_sameE hb).trans h.c3⟩
theorem RExL.elK {d : Nat} {w : World} {K : Nat → Prop} {va : Value} {l : List Ev.Ex} {j : Nat} {e : Ev.Ex} (h : RExL d w K va l) (hj : l[j]? = some e) : ∃ (d' : Nat) (b off c : Nat) (vx : Value), d = d' + 1 ∧ va = .slice (some ⟨b, off, none⟩) l.length c ∧ K b ∧ XAt w b (off + j * 4) e vx ∧ RExL d' w K vx e.args := by
  obtain ⟨d', b, off, c, vx, h1, h2, h3, h4⟩ := h.el hj
  refine ⟨d', b, off, c, vx, h1, h2, ?_, h3, h4⟩
  subst h1
  obtain ⟨vs, _, _, h5, _⟩ := h
  exact h5 _ _ _ h2
theorem row_ints {w : World} {lo n c : Nat} {T : TypeId} {a : Option Addr} {S : List Int} (h : w.ownsRow lo T 1 (.slice a n c) S.length (S.map (Value.int .i64))) (h0 : 0 < S.length) : ∃ g, a = some ⟨g, 0, none⟩ ∧ g < w.heap.size ∧ ∀ (j : Nat) x, S[j]? = some x → w.cell? ⟨g, j, none⟩ = some (.int .i64 x) := by
  rcases h.2 with ⟨_, e⟩ | ⟨g, cap, cur, e, hb, hg, _⟩
  · have : S.length = 0 := by first | exact e | (simpa using congrArg List.length e)
    omega
  · injection e with e1 _ e3
    subst e1 e3
    refine ⟨g, rfl, (Array.getElem?_eq_some_iff.1 hg).1, fun j x hx => ?_⟩
    have hj := (List.getElem?_eq_some_iff.1 hx).1
    obtain rfl : n = S.length := by assumption
    rw [h.cellAt j (by omega), List.getElem?_map, hx]
    rfl
def EvXDo (d : Nat) : Prop := ∀ (e : Ev.Ex) (A L : List Ev.Par) (dark : Bool) (l : Ev.Nms) (a : Ev.Ars) (bs : List Nat) (tb fb lo hi : Nat) (va v2 vx : Value) (vs : List Value) (b o : Nat) (w : World) (K : Nat → Prop),
  EvIn w tb fb lo hi va v2 vs A L a l bs → XAt w b o e vx → b ≠ tb → RExL d w K vx e.args → (∀ k, K k → k ≠ tb) → Ev.WfE e → (Ev.exC A L dark e).2 = 0 →
  Calls Tryd.prog 120 #[.pointer (some ⟨tb, 0, none⟩), .pointer (some ⟨b, o, none⟩), headP bs] w fun r w' => r = .returned (.int .i64 ((Ev.exE A a l e).getD 0)) ∧ SFr (TS tb) w w' ∧ EvM w' tb fb lo hi va v2 vs A a (Ev.endX (Ev.exE A a l e))
set_option maxRecDepth 6000 in
set_option maxHeartbeats 6400000 in
theorem evX (d : Nat) (ih : ∀ d', d = d' + 1 → EvXDo d') : EvXDo d := by
  intro e A L dark l a bs tb fb lo hi va v2 vx vs b o w K hin hx hbt hr hK hw hc
  have HIN := Lib.hid hin
  have HX := Lib.hid hx
  have HR := Lib.hid hr
  have HW := Lib.hid (Ev.wf_args hw)
  have HKD := Lib.hid (Ev.wf_kinds hw)
  have HK := Lib.hid hK
  have HC := Lib.hid (Ev.exC_parts hc)
  have HWE := Lib.hid hw
  have HCC := Lib.hid hc
  obtain ⟨ax, cx, rfl⟩ := hr.form
  have hlen3 : e.args.length ≤ 3 := HW.out.2.2
  obtain ⟨R, hR⟩ : ∃ R, Ev.exE A a l e = R := ⟨_, rfl⟩
  rw [hR]
  have HE := Lib.hid ((Ev.exE_eq A a l e).symm.trans hR)
  have htl := hin.m.lt
  clear hR hin hx hr hK hw hc
  have b3 := HX.out.c3
  have blt := HX.out.lt
  obtain ⟨hp, hhp⟩ : ∃ hp, headP bs = hp := ⟨_, rfl⟩
  have HHP := Lib.hid hhp
  rw [hhp]
  clear hhp
  go_enter Tryd.func120, Tryd.ntmps120
  go_upto_region 3 with fail
  obtain ⟨i1, hi1, hz0, hz1, hz2⟩ := info_parts evInt
  have IC := Lib.hid (⟨hi1, hz0, hz1, hz2⟩ : _ ∧ _ ∧ _ ∧ _)
  clear hi1 hz0 hz1 hz2
  go_loopw [17, 7] (fun ii vv wr => ∃ (i : Nat) (S : List Int), i ≤ e.args.length ∧ S.length = i ∧ ii = .int .i64 (i : Int) ∧ Hid (wr.ownsRow w.heap.size 3 1 vv S.length (S.map (Value.int .i64))) ∧ Hid (Ev.ArgsE A a l e.args (e.args.drop i) S) ∧ Hid (SFr (TS tb) w wr) ∧ Hid (EvM wr tb fb lo hi va v2 vs A a none)) (fun ii _ _ => e.args.length - (intOf ii).toNat)
  case atStart => exact ⟨0, [], by omega, rfl, rfl, Lib.hid (World.ownsRow_nil _ _ _ _), Lib.hid (by rw [List.drop_zero]; exact Ev.ArgsE.start _ _ _ _), Lib.hid (SFr.refl _ _), Lib.hid HIN.out.m⟩
  case round =>
  obtain ⟨_, S, hil, rfl, rfl, HO, HA, HF, HM⟩ := hrel
  obtain ⟨sa, sc, rfl, _, _⟩ := SL.form (SL.of_own HO.out)
  have HXR := Lib.hid (HX.out.same HF.out.size (HF.out.block b blt hbt))
  have b3r := HXR.out.c3
  have zbr := HXR.out.lt
  have hsw := HF.out.size
  have HIR := Lib.hid (HIN.out.to HF.out HM.out)
  clear b3
  by_cases hlt : S.length < e.args.length
  case pos =>
    obtain ⟨x, hx⟩ : ∃ x, e.args[S.length]? = some x := ⟨_, List.getElem?_eq_getElem hlt⟩
    obtain ⟨d', b', off, c', vy, hd, hva, hKb, hxa, hxr⟩ := (RExL.sfr HR.out HF.out (fun k hk => HK.out k hk)).elK hx
    obtain ⟨h1, h2⟩ := slice_two hva
    clear hva
    subst h1 h2
    have hdr : e.args.drop S.length = x :: e.args.drop (S.length + 1) := by
      rw [List.getElem?_eq_getElem hlt] at hx
      injection hx with hx
      rw [← hx]
      exact List.drop_eq_getElem_cons hlt
    rw [hdr] at HA
    have hxm := List.mem_of_getElem? hx
    have CI := Lib.hid (ih d' hd x A L dark l a bs tb fb lo hi va v2 vy vs b' (off + S.length * 4) wr K HIR.out hxa (HK.out b' hKb) hxr HK.out (HW.out.1 x hxm) (HC.out.args x hxm))
    rw [HHP.out] at CI
    obtain ⟨RX, hRX⟩ : ∃ RX, Ev.exE A a l x = RX := ⟨_, rfl⟩
    rw [hRX] at CI
    have HRX := Lib.hid hRX
    have zb' := hxa.lt
    have ztr := HM.out.lt
    clear hx hxa hxr hdr hd hRX hxm hKb ih
    cases RX with
    | none =>
      have HBAD := Lib.hid (HA.out.bad HRX.out)
      rw [HBAD.out] at HE
      have HRN := Lib.hid (show none = R from HE.out)
      change Hid (Calls _ _ _ _ fun r w' => r = .returned (.int .i64 0) ∧ SFr (TS tb) wr w' ∧ EvM w' tb fb lo hi va v2 vs A a (some none)) at CI
      clear HA HE HBAD HRX
      go_upto_region 6 with (first
        | (go_at_call 120; refine CI.out.mono ?_; rintro r w5 ⟨rfl, hF5, hM5⟩; have OWN5 := Lib.hid (ownsRow_same HO.out (fun g hg => hF5.block g (HO.out.lt g hg).2 (by have := HO.out.lt g hg; show ¬ g = tb; omega))); have HF5 := Lib.hid hF5; have HM5 := Lib.hid hM5; clear hF5 hM5; have hs5 := HF5.out.size)
        | (at_builtin; refine wpList_append_own_at _ rfl (.tmp 20) (.tmp 30) _ rfl w.heap.size 3 i1 (.int .i64 0) 1 8 Tryd.underlying46 IC.out.1 IC.out.2.1 IC.out.2.2.1 IC.out.2.2.2 rfl (by decide) _ _ _ rfl (OWN5.out.alloc _) ⟨w5.heap.size, 0, none⟩ 1 1 [.int .i64 0] rfl rfl (cell_one_new _ _ _) (fun x hx => by simp at hx; subst hx; rfl) (by unfold maxLen; omega) (by omega) (by simp; omega) ?_; intro v7 w7 hown7 hg7 hn7 hat7; obtain ⟨A7, c7, rfl, _, _⟩ := SL.form (SL.of_own hown7)))
      have b5 : Below w5.heap.size w5 (w5.alloc (.cells #[.int .i64 0] 3)) := (Below.refl _ _).alloc (Nat.le_refl _) _
      have HM7 := Lib.hid ((HM5.out.on b5).keep hg7.size (fun k hk => hg7.block k (by have := HM5.out.lt; have := HM5.out.tl; have := b5.size; omega) (fun h => by have := OWN5.out.lt k h.symm; have := HM5.out.tl; have := HM5.out.ll; omega)))
      have HF7 := Lib.hid (show SFr (TS tb) w w7 from (HF.out.trans (HF5.out.on b5) (fun _ _ h => h)).trans (S' := fun k => OWN5.out.lt = OWN5.out.lt ∧ Value.ownBlock (.slice sa S.length sc) = some k) ⟨hg7.os, hg7.tape, hg7.output, hg7.size, fun k hk hn => hg7.block k hk (fun h => hn ⟨rfl, h.symm⟩)⟩ (fun k hk h => by have := OWN5.out.lt k h.2; omega))
      clear hown7 hg7 hn7 hat7 OWN5 HF5 HM5 b5
      have c2 : w7.cell? ⟨tb, 2, none⟩ = some (.bool true) := HM7.out.cell 2
      have zt := HM7.out.lt
      go_wp2_with fail
      go_ret
      refine ⟨by rw [← HRN.out]; rfl, HF7.out, by rw [← HRN.out]; exact HM7.out⟩
    | some y =>
      have HG := Lib.hid (HA.out.good HRX.out)
      change Hid (Calls _ _ _ _ fun r w' => r = .returned (.int .i64 y) ∧ SFr (TS tb) wr w' ∧ EvM w' tb fb lo hi va v2 vs A a none) at CI
      clear HA HRX
      go_upto_region 6 with (first
        | (go_at_call 120; refine CI.out.mono ?_; rintro r w5 ⟨rfl, hF5, hM5⟩; have OWN5 := Lib.hid (ownsRow_same HO.out (fun g hg => hF5.block g (HO.out.lt g hg).2 (by have := HO.out.lt g hg; show ¬ g = tb; omega))); have HF5 := Lib.hid hF5; have HM5 := Lib.hid hM5; clear hF5 hM5; have hs5 := HF5.out.size)
        | (at_builtin; refine wpList_append_own_at _ rfl (.tmp 20) (.tmp 30) _ rfl w.heap.size 3 i1 (.int .i64 0) 1 8 Tryd.underlying46 IC.out.1 IC.out.2.1 IC.out.2.2.1 IC.out.2.2.2 rfl (by decide) _ _ _ rfl (OWN5.out.alloc _) ⟨w5.heap.size, 0, none⟩ 1 1 [.int .i64 y] rfl rfl (cell_one_new _ _ _) (fun x hx => by simp at hx; subst hx; rfl) (by unfold maxLen; omega) (by omega) (by simp; omega) ?_; intro v7 w7 hown7 hg7 hn7 hat7; obtain ⟨A7, c7, rfl, _, _⟩ := SL.form (SL.of_own hown7)))
      have b5 : Below w5.heap.size w5 (w5.alloc (.cells #[.int .i64 y] 3)) := (Below.refl _ _).alloc (Nat.le_refl _) _
      have HM7 := Lib.hid ((HM5.out.on b5).keep hg7.size (fun k hk => hg7.block k (by have := HM5.out.lt; have := HM5.out.tl; have := b5.size; omega) (fun h => by have := OWN5.out.lt k h.symm; have := HM5.out.tl; have := HM5.out.ll; omega)))
      have HF7 := Lib.hid (show SFr (TS tb) w w7 from (HF.out.trans (HF5.out.on b5) (fun _ _ h => h)).trans (S' := fun k => OWN5.out.lt = OWN5.out.lt ∧ Value.ownBlock (.slice sa S.length sc) = some k) ⟨hg7.os, hg7.tape, hg7.output, hg7.size, fun k hk hn => hg7.block k hk (fun h => hn ⟨rfl, h.symm⟩)⟩ (fun k hk h => by have := OWN5.out.lt k h.2; omega))
      have HOWN := Lib.hid hown7
      clear hown7 hg7 hn7 hat7 OWN5 HF5 HM5 b5
      have c2 : w7.cell? ⟨tb, 2, none⟩ = some (.bool false) := HM7.out.cell 2
      have zt := HM7.out.lt
      go_wp2_with fail
      go_roundw
      case rel => exact ⟨S.length + 1, S ++ [y], by omega, by simp, by go_num, Lib.hid (by have h := HOWN.out; simpa using h), HG, HF7, HM7⟩
      case measure => simp [intOf]; omega
  case neg =>
  have HIN2 := Lib.hid (show S.length = e.args.length by omega)
  have HD := Lib.hid (Ev.ArgsE.done (show Ev.ArgsE A a l e.args [] S by
    have h := HA.out
    rw [HIN2.out, List.drop_length] at h
    exact h))
  rw [HD.out] at HE
  dsimp only at HE
  have c0 := HXR.out.c0
  have c1 := HXR.out.c1
  have c2 := HXR.out.c2
  have HSW := Lib.hid ((Ev.exsE_word HIN.out.wn HIN.out.wa HW.out.1 HD.out).2)
  clear hil HA IC b3r ih hlen3 HX HR
  rcases HKD.out with ⟨hkd, ha⟩ | ⟨hkd, ha⟩ | ⟨hkd, ha⟩ | ⟨hkd, ha⟩ | ⟨hkd, ha⟩
  case inl =>
    rw [hkd] at c0
    rw [hkd, if_neg (by decide), if_neg (by decide), if_neg (by decide), if_neg (by decide)] at HE
    clear hkd ha
    go_wp2_with fail
    go_ret
    exact ⟨by rw [← HE.out]; rfl, HF.out, by rw [← HE.out]; exact HM.out⟩
  case inr.inl =>
    rw [hkd] at c0
    rw [hkd, if_pos rfl] at HE
    obtain ⟨v, hv⟩ := HC.out.name hkd
    have hh := HIN.out.nm.has hv
    have CF := Lib.hid (evFind l bs e.name wr HIR.out.c hh)
    obtain ⟨up, hup⟩ := HIR.out.c.at_ hh
    rw [HHP.out] at CF
    have u1 : wr.cell? ⟨Ev.slotB bs l e.name, 1, none⟩ = some (.int .i64 (Ev.getN l e.name)) := cell_of_block hup 1
    have zu := (Array.getElem?_eq_some_iff.1 hup).1
    clear hkd ha hv hh hup
    generalize Ev.slotB bs l e.name = B at *
    go_wp2_with (go_at_call 121; refine CF.out.mono ?_; rintro r w1 ⟨rfl, rfl⟩)
    go_ret
    exact ⟨by rw [← HE.out]; rfl, HF.out, by rw [← HE.out]; exact HM.out⟩
  case inr.inr.inl =>
    rw [hkd] at c0
    rw [hkd, if_neg (by decide), if_pos rfl] at HE
    obtain ⟨x, y, rfl⟩ : ∃ x y, S = [x, y] := two_of (HIN2.out.trans ha)
    obtain ⟨g, rfl, hg, hcs⟩ := row_ints HO.out (by simp)
    have r0 := hcs 0 x rfl
    have r1 := hcs 1 y rfl
    have HXY := Lib.hid (show some (Ev.two e.n x y) = R from HE.out)
    replace hlt : ¬ 2 < e.args.length := hlt
    simp only [List.length_cons, List.length_nil, Nat.zero_add, Nat.reduceAdd]
    clear hkd ha hcs HE
    go_upto_region 13 with fail
    go_quiet ((go_at_call 139; exact Calls.quiet_of_same (two_same _ _ _ _)))
    go_wp2_with fail
    go_ret
    exact ⟨by rw [← HXY.out]; rfl, HF.out.on (below_drewN (Below.refl _ _) _), by rw [← HXY.out]; exact HM.out.on (below_drewN (Below.refl _ _) _)⟩
  case inr.inr.inr.inl =>
    rw [hkd] at c0
    rw [hkd, if_neg (by decide), if_neg (by decide), if_pos rfl] at HE
    obtain ⟨x, y, z, rfl⟩ : ∃ x y z, S = [x, y, z] := by
      have h := HIN2.out.trans ha
      match S, h with
      | [x, y, z], _ => exact ⟨x, y, z, rfl⟩
    obtain ⟨g, rfl, hg, hcs⟩ := row_ints HO.out (by simp)
    have r0 := hcs 0 x rfl
    have r1 := hcs 1 y rfl
    have r2 := hcs 2 z rfl
    have HXY := Lib.hid (show some (Ev.sel x y z) = R from HE.out)
    replace hlt : ¬ 3 < e.args.length := hlt
    simp only [List.length_cons, List.length_nil, Nat.zero_add, Nat.reduceAdd]
    clear hkd ha hcs HE
    go_upto_region 16 with fail
    go_quiet ((go_at_call 140; exact Calls.quiet_of_same (sel_same _ _ _ _)))
    go_wp2_with fail
    go_ret
    exact ⟨by rw [← HXY.out]; rfl, HF.out.on (below_drewN (Below.refl _ _) _), by rw [← HXY.out]; exact HM.out.on (below_drewN (Below.refl _ _) _)⟩
  case inr.inr.inr.inr =>
    rw [hkd] at c0
    rw [hkd, if_neg (by decide), if_neg (by decide), if_neg (by decide), if_pos rfl] at HE
    obtain ⟨n, rfl⟩ : ∃ n, S = [n] := one_of (HIN2.out.trans ha)
    obtain ⟨g, rfl, hg, hcs⟩ := row_ints HO.out (by simp)
    have r0 := hcs 0 n rfl
    replace hlt : ¬ 1 < e.args.length := hlt
    have hn0 : 0 ≤ n := (HSW.out n (by simp)).1
    obtain ⟨p, hp⟩ := HC.out.at_ hkd
    have hal := Ev.arrI_lt hp
    obtain ⟨k, hk⟩ : ∃ k, Ev.arrI A e.name = k := ⟨_, rfl⟩
    have CA := Lib.hid (evArr e.name wr HM.out hal)
    rw [hk] at CA hal HE
    obtain ⟨q, hq⟩ : ∃ q, a[k]? = some q := ⟨_, List.getElem?_eq_getElem (by rw [HM.out.len]; exact hal)⟩
    have HXY := Lib.hid (show (if n < (q.length : Int) then some (q.getD n.toNat 0) else none) = R by
      have h := HE.out
      rw [show a.getD k [] = q by rw [List.getD_eq_getElem?_getD, hq]; rfl] at h
      exact h)
    have HQ := Lib.hid hq
    simp only [List.length_cons, List.length_nil, Nat.zero_add, Nat.reduceAdd]
    clear hkd ha hcs HE hp hk hq
    go_upto_region 19 with (go_at_call 122; refine CA.out.mono ?_; rintro r w5 ⟨rfl, hb5⟩)
    have HM5 := Lib.hid (HM.out.on hb5)
    have CP := Lib.hid (evPlace k q n w5 HM5.out HQ.out)
    have r05 := (hb5.cell (p := ⟨g, 0, none⟩) hg).trans r0
    have hg5 : g < w5.heap.size := Nat.lt_of_lt_of_le hg hb5.size
    have hgt : g ≠ tb := by have := HO.out.lt g rfl; omega
    have HF5 := Lib.hid (HF.out.on hb5)
    clear r0 CA hb5
    by_cases hnq : n < (q.length : Int)
    case neg =>
      rw [if_neg hnq] at HXY
      rw [if_neg hnq, decide_eq_false hnq] at CP
      clear hnq
      go_wp2_with (go_at_call 123; refine CP.out.mono ?_; rintro r w6 ⟨rfl, hF6, hM6⟩)
      go_ret
      exact ⟨by rw [← HXY.out]; rfl, HF5.out.trans hF6 (fun _ _ h => h), by rw [← HXY.out]; exact hM6⟩
    case pos =>
      rw [if_pos hnq] at HXY
      rw [if_pos hnq, decide_eq_true hnq] at CP
      go_upto_region 21 with (go_at_call 123; refine CP.out.mono ?_; rintro r w6 ⟨rfl, hF6, hM6⟩)
      have HM6 := Lib.hid hM6
      have HF6 := Lib.hid (HF5.out.trans hF6 (fun _ _ h => h))
      have r06 := (cell_sameE (o := 0) (hF6.block g hg5 hgt)).trans r05
      have hg6 : g < w6.heap.size := Nat.lt_of_lt_of_le hg5 hF6.size
      obtain ⟨bo, co, X, ca, hva, h1, h2, h3, h4, h5, h6, h7, h8, h9, h10⟩ := HM6.out.arrs.at_ HQ.out
      obtain ⟨gq, rfl, h11, h12, _, h13⟩ := h10 (by omega)
      have t1 : w6.cell? ⟨tb, 1, none⟩ = some va := HM6.out.cell 1
      rw [hva] at t1
      have zt6 := HM6.out.lt
      obtain ⟨N, hN⟩ : ∃ N : Nat, n = (N : Int) := ⟨n.toNat, by omega⟩
      subst hN
      have hNq : N < q.length := by omega
      have hqN : q[N]? = some q[N] := List.getElem?_eq_getElem hNq
      have u0 := h13 N _ hqN
      have HXZ := Lib.hid (show some q[N] = R by
        have h := HXY.out
        rw [Int.toNat_natCast, List.getD_eq_getElem?_getD, hqN] at h
        exact h)
      generalize q[N] = z at *
      have hqn2 : (N : Int) < (q.length : Int) := by omega
      clear hF6 hM6 r05 CP HXY hva h1 h5 h7 h8 h13 hqN hg5 HF5 HM5 hn0 hNq
      go_quiet (fail)
      go_wp2_with fail
      go_ret
      exact ⟨by rw [← HXZ.out]; rfl, HF6.out.on (below_drewN (Below.refl _ _) _), by rw [← HXZ.out]; exact HM6.out.on (below_drewN (Below.refl _ _) _)⟩
theorem evX_all : ∀ d, EvXDo d
  | 0 => evX 0 (fun d' h => (by omega))
  | d + 1 => evX (d + 1) (fun d' h => (by obtain rfl : d = d' := by omega
                                          exact evX_all d))
end Go.Proofs.YtpbflgemhcaooaaDoor
