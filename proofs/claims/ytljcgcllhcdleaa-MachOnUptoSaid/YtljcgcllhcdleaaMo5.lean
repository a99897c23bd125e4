import Derived.Test.YtljcgcllhcdleaaMo4
import Derived.Test.YtljcgcllhcdleaaMo2
/- flow.Seen. -/
namespace Go.Proofs.Ytljcgcllhcdleaa
open Go.RowKit
set_option linter.unusedSimpArgs false
set_option linter.unusedVariables false
set_option maxHeartbeats 800000 in
theorem seenPub_any (t : List Int) (i : Ev.Instr) (v : List Int) (al : Bool) (vv : Value) (w : World) (ht : t.length = 18) (hv : RInts w w.heap.size vv v) (hop : 1 ≤ i.op) (hin : SeenIn i v.length (whichOf t i.op al)) :
    Calls Try.prog 39 #[tableV t, .agg #[.int .i64 i.op, .int .i64 i.d, .int .i64 i.a, .int .i64 i.b, .int .i64 i.c, .int .i64 i.imm], vv, .bool al] w fun e w' => ∃ v', e = .returned v' ∧ RInts w' w'.heap.size v' (Ev.seen t i v al) ∧ from_ w.heap.size v' ∧ (∀ b, v'.ownBlock = some b → b < w'.heap.size) ∧ Below w.heap.size w w' := by
  have C := Lib.hid (fun bt w ht hv => seen_any t i v al bt vv w ht hv hop hin)
  have HV := Lib.hid hv
  generalize Ev.seen t i v al = res at *
  clear hv hin
  unfold tableV
  go_enter Try.func39, Try.ntmps39
  go_wp2_with fail
  refine (C.out _ _ ((box_table ht _).stays (by (repeat' first | with_reducible (first | exact Below.refl _ _ | assumption | refine Below.alloc ?_ ?_ _ | refine below_drewN ?_ _ | refine Below.drew ?_ | refine Below.setCell ?_ ?_ _ | refine Below.trans ?_ (Below.mono (by with_reducible assumption) ?_)) | go_size))) (SL.at_ HV.out (by (repeat' first | with_reducible (first | exact Below.refl _ _ | assumption | refine Below.alloc ?_ ?_ _ | refine below_drewN ?_ _ | refine Below.drew ?_ | refine Below.setCell ?_ ?_ _ | refine Below.trans ?_ (Below.mono (by with_reducible assumption) ?_)) | go_size)) (Nat.le_refl _))).mono ?_
  rintro e w1 ⟨v1, rfl, hR, hF, hH, hb1⟩
  obtain ⟨kc1, kf1, s1⟩ := bfacts hb1
  (try simp only [World.size_alloc, World.size_setCell, World.size_drew, World.heap_drewN, Nat.add_one_le_iff] at s1)
  (try have z1 : w.heap.size < w1.heap.size := by omega)
  have B1 : Hid (Below w.heap.size w w1) := by (show Below _ _ _); (repeat' first | with_reducible (first | exact Below.refl _ _ | assumption | refine Below.alloc ?_ ?_ _ | refine below_drewN ?_ _ | refine Below.drew ?_ | refine Below.setCell ?_ ?_ _ | refine Below.trans ?_ (Below.mono (by with_reducible assumption) ?_)) | go_size)
  obtain ⟨kd1, kg1, _⟩ := bfacts B1.out
  go_wp2_with fail
  go_ret
  exact ⟨_, rfl, hR, hF.less (by simp; omega), hH, by (repeat' first | with_reducible (first | exact Below.refl _ _ | assumption | refine Below.alloc ?_ ?_ _ | refine below_drewN ?_ _ | refine Below.drew ?_ | refine Below.setCell ?_ ?_ _ | refine Below.trans ?_ (Below.mono (by with_reducible assumption) ?_)) | go_size)⟩
end Go.Proofs.Ytljcgcllhcdleaa
/- What was seen so far, in a row of the call's own. -/
namespace Go.Proofs.Ytljcgcllhcdleaa
open Go.RowKit
set_option linter.unusedSimpArgs false
set_option linter.unusedVariables false
def leakCells (x : Ev.Leak) (u : Value) : List Value := [.int .i64 x.pc, .int .i64 x.op, u]
def leaksCells : List Ev.Leak → List Value → List Value
  | x :: l, u :: us => leakCells x u ++ leaksCells l us
  | _, _ => []
theorem leaksCells_snoc : ∀ (l : List Ev.Leak) (us : List Value) (x : Ev.Leak) (u : Value), us.length = l.length → leaksCells (l ++ [x]) (us ++ [u]) = leaksCells l us ++ leakCells x u
  | [], [], x, u, _ => by simp [leaksCells]
  | y :: l, v :: us, x, u, h => by
    have := leaksCells_snoc l us x u (by simpa using h)
    simp [leaksCells, this]
  | [], v :: us, x, u, h => by simp at h
  | y :: l, [], x, u, h => by simp at h
theorem leaksCells_length : ∀ (l : List Ev.Leak) (us : List Value), us.length = l.length → (leaksCells l us).length = l.length * 3
  | [], [], _ => rfl
  | y :: l, v :: us, h => by
    have := leaksCells_length l us (by simpa using h)
    simp [leaksCells, leakCells, this]
    omega
  | [], v :: us, h => by simp at h
  | y :: l, [], h => by simp at h
theorem leaksCells_at : ∀ (l : List Ev.Leak) (us : List Value) (k : Nat) (x : Ev.Leak) (u : Value), l[k]? = some x → us[k]? = some u → ∀ j c, (leakCells x u)[j]? = some c → (leaksCells l us)[k * 3 + j]? = some c
  | [], us, k, x, u, h, _, _, _, _ => by simp at h
  | y :: l, [], k, x, u, _, h, _, _, _ => by simp at h
  | y :: l, v :: us, 0, x, u, h1, h2, j, c, hc => by
    simp at h1 h2
    subst h1 h2
    have hj : j < (leakCells y v).length := (List.getElem?_eq_some_iff.1 hc).1
    simp only [leaksCells, Nat.zero_mul, Nat.zero_add]
    rw [List.getElem?_append_left hj]
    exact hc
  | y :: l, v :: us, k + 1, x, u, h1, h2, j, c, hc => by
    have := leaksCells_at l us k x u (by simpa using h1) (by simpa using h2) j c hc
    simp only [leaksCells]
    rw [List.getElem?_append_right (by simp [leakCells]; omega)]
    have e : (k + 1) * 3 + j - (leakCells y v).length = k * 3 + j := by simp [leakCells]; omega
    rw [e]
    exact this
structure Leaks (w : World) (lo : Nat) (v : Value) (l : List Ev.Leak) (us : List Value) : Prop where
  row : w.ownsRow lo 72 3 v l.length (leaksCells l us)
  len : us.length = l.length
  val : ∀ (k : Nat) u x, us[k]? = some u → l[k]? = some x → RInts w w.heap.size u x.vals
  low : ∀ (k : Nat) u, us[k]? = some u → from_ lo u
  out : ∀ (k : Nat) u b, us[k]? = some u → u.ownBlock = some b → v.ownBlock ≠ some b
  hi : ∀ (k : Nat) u b, us[k]? = some u → u.ownBlock = some b → b < w.heap.size
theorem Leaks.nil_ (w : World) (lo : Nat) : Leaks w lo (.slice none 0 0) [] [] :=
  ⟨World.ownsRow_nil _ _ _ _, rfl, fun k u a h => by simp at h, fun k u h => by simp at h, fun k u b h => by simp at h, fun k u b h => by simp at h⟩
theorem Leaks.stays {w w' : World} {lo : Nat} {v : Value} {l : List Ev.Leak} {us : List Value} (h : Leaks w lo v l us) (hb : Below w.heap.size w w') : Leaks w' lo v l us :=
  ⟨owns_below h.row hb, h.len, fun k u x hu hx => SL.at_ (h.val k u x hu hx) hb (Nat.le_refl _), h.low, h.out, fun k u b hu hb' => Nat.lt_of_lt_of_le (h.hi k u b hu hb') hb.size⟩
theorem Leaks.aside {w : World} {lo : Nat} {v : Value} {l : List Ev.Leak} {us : List Value} (h : Leaks w lo v l us) (k o : Nat) (c : Value) (hk : k < lo) : Leaks (w.setCell ⟨k, o, none⟩ c) lo v l us :=
  ⟨ownsRow_setCell_below h.row hk c, h.len, fun j u x hu hx => by
    have := SL.aside (h.val j u x hu hx) (h.low j u hu) k o c hk
    show SL _ _ _ _ _ _
    simpa using this, h.low, h.out, fun j u b hu hb => by simpa using h.hi j u b hu hb⟩
/-- a slice stays as it reads while a row elsewhere grows -/
theorem SL.grown {w w' : World} {size n : Nat} {v : Value} {xs : List Value} {row : Option Nat} (h : SL w w.heap.size size v n xs) (hg : w.grownBy w' row) (hne : ∀ b, v.ownBlock = some b → some b ≠ row) : SL w' w'.heap.size size v n xs := by
  obtain ⟨h1, A, c, rfl, h3, h4, h5, h6⟩ := h
  refine ⟨h1, A, c, rfl, h3, h4, h5, fun hn => ?_⟩
  obtain ⟨b, o, rfl, hlt, hc⟩ := h6 hn
  refine ⟨b, o, rfl, Nat.lt_of_lt_of_le hlt hg.size, fun j u hu => hg.cell (hc j u hu) (hne b rfl)⟩
theorem Leaks.push {w w1 w2 : World} {lo : Nat} {v v' u : Value} {l : List Ev.Leak} {us : List Value} {x : Ev.Leak} (h : Leaks w lo v l us) (hlo : lo ≤ w.heap.size) (hb : Below w.heap.size w w1)
    (hu : RInts w1 w1.heap.size u x.vals) (hf : from_ w.heap.size u) (hfl : ∀ b, u.ownBlock = some b → b < w1.heap.size)
    (hg : w1.grownBy w2 v.ownBlock) (hv : w2.ownsRow lo 72 3 v' (l.length + 1) (leaksCells l us ++ leakCells x u))
    (hat : v'.ownBlock = v.ownBlock ∨ ∃ q, v'.ownBlock = some q ∧ w1.heap.size ≤ q) : Leaks w2 lo v' (l ++ [x]) (us ++ [u]) := by
  have split : ∀ (k : Nat) y, (us ++ [u])[k]? = some y → (k < us.length ∧ us[k]? = some y) ∨ (k = us.length ∧ y = u) := fun k y hx => by
    rcases Nat.lt_or_ge k us.length with hk | hk
    · rw [List.getElem?_append_left hk] at hx; exact .inl ⟨hk, hx⟩
    · rw [List.getElem?_append_right hk] at hx
      have : k - us.length = 0 := by
        rcases Nat.eq_zero_or_pos (k - us.length) with h0 | h0
        · exact h0
        · rw [List.getElem?_eq_none (by simp; omega)] at hx; cases hx
      rw [this] at hx
      exact .inr ⟨by omega, by simpa using hx.symm⟩
  have hub : ∀ b, u.ownBlock = some b → w.heap.size ≤ b := fun b hb' => by
    cases u <;> simp [Value.ownBlock] at hb'
    rename_i a n c
    cases a with
    | none => simp at hb'
    | some a => simp at hb'; subst hb'; exact hf a n c rfl
  refine ⟨by rw [leaksCells_snoc _ _ _ _ h.len]; simpa using hv, by simp [h.len], fun k y z hy hz => ?_, fun k y hy => ?_, fun k y b hy hyb => ?_, fun k y b hy hyb => ?_⟩
  · rcases split k y hy with ⟨hk, hy⟩ | ⟨hk, rfl⟩
    · rw [List.getElem?_append_left (by rw [← h.len]; exact hk)] at hz
      exact SL.grown (SL.at_ (h.val k y z hy hz) hb (Nat.le_refl _)) hg (fun b hyb e => h.out k y b hy hyb e.symm)
    · subst hk
      rw [h.len, List.getElem?_append_right (Nat.le_refl _)] at hz
      simp at hz
      subst hz
      refine SL.grown hu hg (fun b hyb e => ?_)
      have h1 := hub b hyb
      have h2 := (h.row.lt b e.symm).2
      omega
  · rcases split k y hy with ⟨hk, hy⟩ | ⟨hk, rfl⟩
    · exact h.low k y hy
    · exact hf.less hlo
  · rcases split k y hy with ⟨hk, hy⟩ | ⟨hk, rfl⟩
    · rcases hat with e | ⟨q, e, hq⟩
      · rw [e]; exact h.out k y b hy hyb
      · rw [e]
        intro e2
        injection e2 with e2
        have h1 := h.hi k y b hy hyb
        have := hb.size
        omega
    · rcases hat with e | ⟨q, e, hq⟩
      · rw [e]
        intro e2
        have h1 := hub b hyb
        have := (h.row.lt b e2).2
        omega
      · rw [e]
        intro e2
        injection e2 with e2
        have := hfl b hyb
        omega
  · have h1 := hg.size
    have h2 := hb.size
    rcases split k y hy with ⟨hk, hy⟩ | ⟨hk, rfl⟩
    · have := h.hi k y b hy hyb; omega
    · have := hfl b hyb; omega
theorem leak_info : (Try.prog.info? 72).map (fun i => (i.zero, i.size, i.bytes)) = some (some (.agg #[.int .i64 0, .int .i64 0, .slice none 0 0]), 3, 40) := by kernel_rfl
end Go.Proofs.Ytljcgcllhcdleaa
/- Chapter 7, in plain words: right instructions, and one step of a run. -/
namespace Ev
structure Right (f : Flat) : Prop where
  len1 : 1 ≤ f.code.length
  len2 : f.code.length ≤ 12000
  p0 : 0 ≤ f.params
  p1 : f.params ≤ f.secret.length
  at_ : ∀ (k : Nat) i, f.code[k]? = some i → checkAt f k i = 0
  last : lastOp f = 20 ∨ lastOp f = 21 ∨ lastOp f = 18
theorem checkFrom_zero (f : Flat) : ∀ (l : List Instr) (k : Nat), (checkFrom f k l).1 = 0 → ∀ (m : Nat) i, l[m]? = some i → checkAt f (k + m) i = 0
  | [], k, _, m, i, h => by simp at h
  | x :: r, k, h, m, i, hm => by
    unfold checkFrom at h
    by_cases hx : checkAt f k x = 0
    · rw [if_pos hx] at h
      cases m with
      | zero => simp at hm; subst hm; exact hx
      | succ m =>
        have := checkFrom_zero f r (k + 1) h m i (by simpa using hm)
        rw [show k + (m + 1) = k + 1 + m by omega]
        exact this
    · rw [if_neg hx] at h
      exact absurd h hx
theorem right_of_check {f : Flat} (h : (check f).1 = 0) : Right f := by
  unfold check at h
  by_cases h1 : f.code.length < 1 ∨ 12000 < f.code.length ∨ f.params < 0 ∨ f.secret.length < f.params
  · rw [if_pos h1] at h; cases h
  · rw [if_neg h1] at h
    by_cases h2 : (checkFrom f 0 f.code).1 ≠ 0
    · rw [if_pos h2] at h; exact absurd h h2
    · rw [if_neg h2] at h
      by_cases h3 : lastOp f = 20 ∨ lastOp f = 21 ∨ lastOp f = 18
      · exact ⟨by omega, by omega, by omega, by omega, fun k i hk => by
          have := checkFrom_zero f f.code 0 (by omega) k i hk
          simpa using this, h3⟩
      · rw [if_neg h3] at h; cases h
theorem check_of_right {f : Flat} (h : Right f) : check f = (0, -1) := by
  have hz : ∀ (l : List Instr) (k : Nat), (∀ (m : Nat) i, l[m]? = some i → checkAt f (k + m) i = 0) → checkFrom f k l = (0, -1) := by
    intro l
    induction l with
    | nil => intro k _; rfl
    | cons x r ih =>
      intro k hk
      have hx : checkAt f k x = 0 := by simpa using hk 0 x rfl
      unfold checkFrom
      rw [if_pos hx]
      exact ih (k + 1) (fun m i hm => by
        have := hk (m + 1) i (by simpa using hm)
        rw [show k + 1 + m = k + (m + 1) by omega]
        exact this)
  have h0 := hz f.code 0 (fun m i hm => by simpa using h.at_ m i hm)
  have := h.len1
  have := h.len2
  have := h.p0
  have := h.p1
  unfold check
  rw [if_neg (by omega), h0, if_neg (by simp), if_pos h.last]
/-- what a right instruction is -/
structure Sound (f : Flat) (k : Nat) (i : Instr) : Prop where
  op : 1 ≤ i.op ∧ i.op ≤ 21
  reads : ∀ p ∈ reads i, 0 ≤ p ∧ p < (f.secret.length : Int)
  makes : i.op ≤ 16 → 0 ≤ i.d ∧ i.d < (f.secret.length : Int)
  imm : i.op = 14 → 0 ≤ i.imm ∧ i.imm ≤ 4294967295
  arr : i.op = 16 ∨ i.op = 17 → 0 ≤ i.b ∧ i.b < (f.arrays.length : Int)
  jump : i.op = 18 ∨ i.op = 19 → (k : Int) < i.imm ∧ i.imm < (f.code.length : Int)
  labels : secrets f i = false
theorem sound_of {f : Flat} {k : Nat} {i : Instr} (h : checkAt f k i = 0) : Sound f k i := by
  unfold checkAt at h
  by_cases h1 : ¬ (1 ≤ i.op ∧ i.op ≤ 21)
  · rw [if_pos h1] at h; cases h
  rw [if_neg h1] at h
  by_cases h2 : numbers f k i = false
  · rw [if_pos h2] at h; cases h
  rw [if_neg h2] at h
  have hs : secrets f i = false := by
    cases hs : secrets f i with
    | false => rfl
    | true => rw [hs] at h; simp at h
  have h3 : numbers f k i = true := by simpa using h2
  unfold numbers at h3
  rw [Bool.and_eq_true, Bool.and_eq_true, List.all_eq_true] at h3
  obtain ⟨⟨h4, h5⟩, h6⟩ := h3
  refine ⟨by omega, fun p hp => ?_, fun hop => ?_, fun hop => ?_, fun hop => ?_, fun hop => ?_, hs⟩
  · have := h4 p hp; simpa [isPlace] using this
  · have hm : Ev.makes i = true := by unfold Ev.makes; simp; omega
    rw [hm] at h5
    simpa [isPlace] using h5
  · rw [if_pos hop] at h6; simpa [isWord] using h6
  · rw [if_neg (by omega), if_pos hop] at h6; simpa using h6
  · rw [if_neg (by omega), if_neg (by omega), if_pos hop] at h6; simpa using h6
theorem Right.sound {f : Flat} (h : Right f) {k : Nat} {i : Instr} (hk : f.code[k]? = some i) : Sound f k i := sound_of (h.at_ k i hk)
def Wd (x : Int) : Prop := 0 ≤ x ∧ x ≤ 4294967295
/-- a state that a run may come to -/
structure Fine (f : Flat) (s : St) : Prop where
  len : s.v.length = f.secret.length
  word : ∀ x ∈ s.v, Wd x
  alen : s.arrs.length = f.arrays.length
  aword : ∀ a ∈ s.arrs, ∀ x ∈ a, Wd x
theorem two_wd (op a b : Int) : Wd (two op a b) := by
  have : ∀ x y : Nat, x < 4294967296 → y < 4294967296 → twoN op x y < 4294967296 := by
    intro x y hx hy
    unfold twoN
    by_cases h1 : op = 1
    · rw [if_pos h1]; exact Nat.mod_lt _ (by decide)
    rw [if_neg h1]
    by_cases h2 : op = 2
    · rw [if_pos h2]; exact wsub_lt _ _
    rw [if_neg h2]
    by_cases h3 : op = 3
    · rw [if_pos h3]; exact and_lt hx
    rw [if_neg h3]
    by_cases h4 : op = 4
    · rw [if_pos h4]; exact or_lt hx hy
    rw [if_neg h4]
    by_cases h5 : op = 5
    · rw [if_pos h5]; exact xor_lt hx hy
    rw [if_neg h5]
    by_cases h6 : op = 6
    · rw [if_pos h6]; exact Nat.mod_lt _ (by decide)
    rw [if_neg h6]
    by_cases h7 : op = 7
    · rw [if_pos h7]; exact Nat.lt_of_le_of_lt (Nat.div_le_self _ _) hx
    rw [if_neg h7]
    by_cases h8 : op = 8
    · rw [if_pos h8]; exact Nat.mod_lt _ (by decide)
    rw [if_neg h8]
    by_cases h9 : op = 9
    · rw [if_pos h9]
      by_cases h : y = 0
      · rw [if_pos h]; decide
      · rw [if_neg h]; exact Nat.lt_of_le_of_lt (Nat.div_le_self _ _) hx
    rw [if_neg h9]
    by_cases h10 : op = 10
    · rw [if_pos h10]
      by_cases h : y = 0
      · rw [if_pos h]; exact hx
      · rw [if_neg h]; exact Nat.lt_of_le_of_lt (Nat.mod_le _ _) hx
    rw [if_neg h10]
    by_cases h11 : op = 11
    · rw [if_pos h11]
      by_cases h : x < y
      · rw [if_pos h]; decide
      · rw [if_neg h]; decide
    rw [if_neg h11]
    by_cases h12 : op = 12
    · rw [if_pos h12]
      by_cases h : x = y
      · rw [if_pos h]; decide
      · rw [if_neg h]; decide
    rw [if_neg h12]
    decide
  have h := this _ _ (low_lt a) (low_lt b)
  unfold two Wd
  omega
theorem sel_wd (a b c : Int) : Wd (sel a b c) := by
  have := low_lt b
  have := low_lt c
  unfold sel Wd
  split <;> omega
theorem mem_set {α : Type} {l : List α} {k : Nat} {x y : α} (h : y ∈ l.set k x) : y ∈ l ∨ y = x := by
  rcases List.mem_or_eq_of_mem_set h with h | h
  · exact .inl h
  · exact .inr h
theorem Fine.set {f : Flat} {s : St} (h : Fine f s) (k : Nat) {x : Int} (hx : Wd x) : Fine f { s with v := s.v.set k x } :=
  ⟨by simpa using h.len, fun y hy => (mem_set hy).elim (fun hy => h.word y hy) (fun e => by rw [e]; exact hx), h.alen, h.aword⟩
theorem Fine.val {f : Flat} {s : St} (h : Fine f s) (p : Int) : Wd (Ev.val s.v p) := by
  unfold Ev.val
  rw [List.getD_eq_getElem?_getD]
  cases hx : s.v[p.toNat]? with
  | none => exact ⟨by decide, by decide⟩
  | some x => exact h.word x (List.mem_of_getElem? hx)
theorem Fine.arr {f : Flat} {s : St} (h : Fine f s) (b n : Int) : Wd (arrAt s.arrs b n) := by
  unfold arrAt
  split
  · unfold Ev.val
    rw [List.getD_eq_getElem?_getD]
    cases hx : (s.arrs.getD b.toNat [])[n.toNat]? with
    | none => exact ⟨by decide, by decide⟩
    | some x =>
      have hm := List.mem_of_getElem? hx
      rw [List.getD_eq_getElem?_getD] at hm
      cases ha : s.arrs[b.toNat]? with
      | none => rw [ha] at hm; simp at hm
      | some a => rw [ha] at hm; exact h.aword a (List.mem_of_getElem? ha) x hm
  · exact ⟨by decide, by decide⟩
/-- one step leaves a state that may be -/
theorem Fine.step {f : Flat} {k : Nat} {i : Instr} {s : St} (h : Fine f s) (hs : Sound f k i) : Fine f (Ev.step i k s).1 := by
  have hop := hs.op
  unfold Ev.step
  by_cases h12 : i.op ≤ 12
  · rw [if_pos h12]; exact h.set _ (two_wd _ _ _)
  rw [if_neg h12]
  by_cases h13 : i.op = 13
  · rw [if_pos h13]; exact h.set _ (sel_wd _ _ _)
  rw [if_neg h13]
  by_cases h14 : i.op = 14
  · rw [if_pos h14]; exact h.set _ (hs.imm h14)
  rw [if_neg h14]
  by_cases h15 : i.op = 15
  · rw [if_pos h15]; exact h.set _ (h.val _)
  rw [if_neg h15]
  by_cases h16 : i.op = 16
  · rw [if_pos h16]; exact h.set _ (h.arr _ _)
  rw [if_neg h16]
  by_cases h17 : i.op = 17
  · rw [if_pos h17]
    simp only
    split
    · refine ⟨h.len, h.word, by simpa using h.alen, fun a ha x hx => ?_⟩
      rcases mem_set ha with ha | rfl
      · exact h.aword a ha x hx
      · rcases mem_set hx with hx | rfl
        · rw [List.getD_eq_getElem?_getD] at hx
          cases hb : s.arrs[i.b.toNat]? with
          | none => rw [hb] at hx; simp at hx
          | some a => rw [hb] at hx; exact h.aword a (List.mem_of_getElem? hb) x hx
        · exact h.val _
    · exact h
  rw [if_neg h17]
  by_cases h18 : i.op = 18
  · rw [if_pos h18]; exact h
  rw [if_neg h18]
  by_cases h19 : i.op = 19
  · rw [if_pos h19]; exact h
  rw [if_neg h19, if_pos (by omega)]
  exact h
/-- where it goes on -/
theorem step_on {f : Flat} (hr : Right f) {k k' : Nat} {i : Instr} {s : St} (hk : f.code[k]? = some i) (h : (Ev.step i k s).2 = some k') : k < k' ∧ k' < f.code.length := by
  have hs := hr.sound hk
  have hop := hs.op
  have hlt : k < f.code.length := (List.getElem?_eq_some_iff.1 hk).1
  have hlast : i.op ≠ 20 → i.op ≠ 21 → i.op ≠ 18 → k + 1 < f.code.length := by
    intro h1 h2 h3
    rcases Nat.lt_or_ge (k + 1) f.code.length with h4 | h4
    · exact h4
    · exfalso
      have : f.code.length - 1 = k := by omega
      have hl := hr.last
      unfold lastOp at hl
      rw [this, List.getD_eq_getElem?_getD, hk] at hl
      simp only [Option.getD_some] at hl
      omega
  unfold Ev.step at h
  by_cases h12 : i.op ≤ 12
  · rw [if_pos h12] at h; simp at h; have := hlast (by omega) (by omega) (by omega); omega
  rw [if_neg h12] at h
  by_cases h13 : i.op = 13
  · rw [if_pos h13] at h; simp at h; have := hlast (by omega) (by omega) (by omega); omega
  rw [if_neg h13] at h
  by_cases h14 : i.op = 14
  · rw [if_pos h14] at h; simp at h; have := hlast (by omega) (by omega) (by omega); omega
  rw [if_neg h14] at h
  by_cases h15 : i.op = 15
  · rw [if_pos h15] at h; simp at h; have := hlast (by omega) (by omega) (by omega); omega
  rw [if_neg h15] at h
  by_cases h16 : i.op = 16
  · rw [if_pos h16] at h; simp at h; have := hlast (by omega) (by omega) (by omega); omega
  rw [if_neg h16] at h
  by_cases h17 : i.op = 17
  · rw [if_pos h17] at h; simp at h; have := hlast (by omega) (by omega) (by omega); omega
  rw [if_neg h17] at h
  by_cases h18 : i.op = 18
  · rw [if_pos h18] at h; simp at h; have := hs.jump (.inl h18); omega
  rw [if_neg h18] at h
  by_cases h19 : i.op = 19
  · rw [if_pos h19] at h
    simp at h
    have := hs.jump (.inr h19)
    have := hlast (by omega) (by omega) (by omega)
    split at h <;> omega
  rw [if_neg h19, if_pos (by omega)] at h
  cases h
theorem wrongFrom_zero (t : List Int) : ∀ (n k : Nat), wrongFrom t n k = 0 → ∀ m, m < n → subBits (seenOf t ((k + m : Nat) : Int)) (most ((k + m : Nat) : Int)) = true
  | 0, k, _, m, hm => absurd hm (by omega)
  | n + 1, k, h, m, hm => by
    unfold wrongFrom at h
    by_cases hx : subBits (seenOf t (k : Int)) (most (k : Int)) = true
    · rw [if_pos hx] at h
      cases m with
      | zero => exact hx
      | succ m =>
        have := wrongFrom_zero t n (k + 1) h m (by omega)
        rw [show k + (m + 1) = k + 1 + m by omega]
        exact this
    · rw [if_neg hx] at h; cases h
theorem table_bits {t : List Int} (h : wrong t = 0) {op : Int} (h1 : 1 ≤ op) (h17 : op ≤ 17) : subBits (seenOf t op) (most op) = true := by
  unfold wrong at h
  by_cases h0 : seenOf t 0 ≠ 0
  · rw [if_pos h0] at h; cases h
  · rw [if_neg h0] at h
    have := wrongFrom_zero t 17 1 h (op.toNat - 1) (by omega)
    rw [show ((1 + (op.toNat - 1) : Nat) : Int) = op by omega] at this
    exact this
theorem sub_small {n m : Int} (hm : m = 0 ∨ m = 1 ∨ m = 3 ∨ m = 7) (h : subBits n m = true) : (0 ≤ n ∧ n ≤ 7) ∧ ∀ k, k < 3 → hasBit n k = true → hasBit m k = true := by
  unfold subBits at h
  rw [Bool.and_eq_true, decide_eq_true_eq, beq_iff_eq] at h
  obtain ⟨h0, h⟩ := h
  obtain ⟨j, rfl⟩ : ∃ j : Nat, n = j := ⟨n.toNat, by omega⟩
  have hle : j ≤ m.toNat := by
    rw [← h]
    exact Nat.left_le_or
  have hj : j < 8 := by omega
  refine ⟨by omega, ?_⟩
  simp only [Int.toNat_natCast] at h
  clear h0 hle
  rcases hm with rfl | rfl | rfl | rfl <;> (revert h; revert j; decide)
end Ev
namespace Go.Proofs.Ytljcgcllhcdleaa
/-- by a right table only what is read is seen -/
theorem seenIn_right {t : List Int} (ht : Ev.wrong t = 0) {i : Ev.Instr} {n : Nat} (h1 : 1 ≤ i.op) (hr : ∀ p ∈ Ev.reads i, inR n p) : SeenIn i n (whichOf t i.op false) := by
  have h19 : i.op = 19 → inR n i.a := fun h => hr _ (by unfold Ev.reads; rw [if_neg (by omega), if_neg (by omega), if_neg (by omega), if_pos (by omega)]; simp)
  by_cases h17 : i.op ≤ 17
  · have hw : whichOf t i.op false = Ev.seenOf t i.op := by unfold whichOf; rw [if_neg (by decide), if_pos h17]
    rw [hw]
    have hb := Ev.table_bits ht h1 h17
    have hm : Ev.most i.op = 0 ∨ Ev.most i.op = 1 ∨ Ev.most i.op = 3 ∨ Ev.most i.op = 7 := by
      unfold Ev.most Ev.all
      repeat' split
      all_goals simp
    obtain ⟨h2, h3⟩ := Ev.sub_small hm hb
    refine ⟨h2, fun k hk hbit => ?_, h19⟩
    have hmb := h3 k hk hbit
    have b0 : ∀ k, k < 3 → Ev.hasBit 0 k = true → False := by decide
    have b1 : ∀ k, k < 3 → Ev.hasBit 1 k = true → k = 0 := by decide
    have b3 : ∀ k, k < 3 → Ev.hasBit 3 k = true → k = 0 ∨ k = 1 := by decide
    by_cases c1 : i.op ≤ 12
    · have e : Ev.most i.op = 3 := by unfold Ev.most Ev.all; rw [if_neg (by omega), if_pos (by omega)]
      have er : Ev.reads i = [i.a, i.b] := by unfold Ev.reads; rw [if_pos (by omega)]
      rw [e] at hmb
      refine ⟨fun h => by omega, fun _ _ => ?_⟩
      rcases b3 k hk hmb with rfl | rfl
      · exact hr _ (by rw [er]; simp [placeOf])
      · exact hr _ (by rw [er]; simp [placeOf])
    by_cases c2 : i.op = 13
    · have er : Ev.reads i = [i.a, i.b, i.c] := by unfold Ev.reads; rw [if_neg (by omega), if_pos c2]
      refine ⟨fun h => by omega, fun _ _ => ?_⟩
      rcases (show k = 0 ∨ k = 1 ∨ k = 2 by omega) with rfl | rfl | rfl <;> exact hr _ (by rw [er]; simp [placeOf])
    by_cases c3 : i.op = 14
    · have e : Ev.most i.op = 0 := by unfold Ev.most Ev.all; rw [if_neg (by omega), if_neg (by omega), if_neg (by omega), if_neg (by omega), if_neg (by omega), if_neg (by omega)]
      rw [e] at hmb
      exact absurd hmb (fun h => b0 k hk h)
    by_cases c4 : i.op = 17
    · have e : Ev.most i.op = 3 := by unfold Ev.most Ev.all; rw [if_neg (by omega), if_neg (by omega), if_neg (by omega), if_neg (by omega), if_neg (by omega), if_pos (by omega)]
      have er : Ev.reads i = [i.a, i.d] := by unfold Ev.reads; rw [if_neg (by omega), if_neg (by omega), if_pos c4]
      rw [e] at hmb
      refine ⟨fun h => hr _ (by rw [er]; simp), fun h _ => ?_⟩
      rcases b3 k hk hmb with rfl | rfl
      · exact hr _ (by rw [er]; simp [placeOf])
      · exact absurd ⟨c4, rfl⟩ h
    · have e : Ev.most i.op = 1 := by
        unfold Ev.most Ev.all
        by_cases c5 : i.op = 16
        · rw [if_pos c5]
        · rw [if_neg c5, if_neg (by omega), if_neg (by omega), if_pos (by omega)]
      have er : Ev.reads i = [i.a] := by unfold Ev.reads; rw [if_neg (by omega), if_neg (by omega), if_neg (by omega), if_pos (by omega)]
      rw [e] at hmb
      have := b1 k hk hmb
      subst this
      exact ⟨fun h => by omega, fun _ _ => hr _ (by rw [er]; simp [placeOf])⟩
  · have hw : whichOf t i.op false = 0 := by unfold whichOf; rw [if_neg (by decide), if_neg h17]
    rw [hw]
    exact ⟨by omega, fun k hk h => False.elim ((by decide : ∀ k, k < 3 → Ev.hasBit 0 k = true → False) k hk h), h19⟩
end Go.Proofs.Ytljcgcllhcdleaa
/- The memory of a run: the places' row, the arrays' rows. -/
namespace Go.Proofs.Ytljcgcllhcdleaa
open Go.RowKit
set_option linter.unusedSimpArgs false
set_option linter.unusedVariables false
/-- the state lies in rows from bv on, below hi -/
structure StateAt (w : World) (bv : Nat) (va : Value) (vs : List Value) (hi : Nat) (s : Ev.St) : Prop where
  v : w.ownsRow bv 3 1 (.slice (some ⟨bv, 0, none⟩) s.v.length s.v.length) s.v.length (s.v.map (Value.int .i64))
  arrs : Arrs w (bv + 1) va s.arrs vs
  hiv : bv < hi
  hio : ∀ b, va.ownBlock = some b → b < hi
  his : ∀ (k : Nat) u b, vs[k]? = some u → u.ownBlock = some b → b < hi
  le : hi ≤ w.heap.size
section
variable {w w' : World} {bv hi : Nat} {va : Value} {vs : List Value} {s : Ev.St}
theorem StateAt.grown {row : Option Nat} (h : StateAt w bv va vs hi s) (hg : w.grownBy w' row) (hr : ∀ q, row = some q → hi ≤ q) : StateAt w' bv va vs hi s := by
  have ne : ∀ (u : Value), (∀ b, u.ownBlock = some b → b < hi) → u.ownBlock = none ∨ u.ownBlock ≠ row := fun u hu => by
    cases hb : u.ownBlock with
    | none => exact .inl rfl
    | some b =>
      refine .inr fun e => ?_
      have := hr b e.symm
      have := hu b hb
      omega
  refine ⟨h.v.kept hg (ne _ (fun b hb => by simp [Value.ownBlock] at hb; subst hb; exact h.hiv)), ⟨h.arrs.outer.kept hg (ne _ h.hio), h.arrs.len, fun k u a hu ha => (h.arrs.row k u a hu ha).kept hg (ne _ (h.his k u · hu)), h.arrs.apart, h.arrs.out⟩, h.hiv, h.hio, h.his, Nat.le_trans h.le hg.size⟩
theorem StateAt.stays (h : StateAt w bv va vs hi s) (hb : Below w.heap.size w w') : StateAt w' bv va vs hi s := h.grown (grown_of_below hb none) (fun q e => by cases e)
theorem StateAt.cell (h : StateAt w bv va vs hi s) {p : Int} (hp : inR s.v.length p) : w.cell? ⟨bv, p.toNat, none⟩ = some (.int .i64 (Ev.val s.v p)) := by
  unfold inR at hp
  rw [h.v.cellAt p.toNat (by omega)]
  rw [List.getElem?_map]
  unfold Ev.val
  rw [List.getD_eq_getElem?_getD, List.getElem?_eq_getElem (by omega)]
  rfl
theorem StateAt.loose (h : StateAt w bv va vs hi s) (j : Nat) : w.frozen? ⟨bv, j, none⟩ = false := h.v.frozenAt j
theorem StateAt.lt (h : StateAt w bv va vs hi s) : bv < w.heap.size := Nat.lt_of_lt_of_le h.hiv h.le
theorem map_set_int (l : List Int) (j : Nat) (x : Int) : (l.set j x).map (Value.int .i64) = (l.map (Value.int .i64)).set j (.int .i64 x) := by
  rw [List.map_set]
theorem StateAt.setV (h : StateAt w bv va vs hi s) (j : Nat) (x : Int) : StateAt (w.setCell ⟨bv, j, none⟩ (.int .i64 x)) bv va vs hi { s with v := s.v.set j x } := by
  obtain ⟨h1, h2⟩ := h.v.stored j (.int .i64 x)
  refine ⟨?_, ⟨ownsRow_setCell_below h.arrs.outer (Nat.lt_succ_self _) _, h.arrs.len, fun k u a hu ha => ownsRow_setCell_below (h.arrs.row k u a hu ha) (Nat.lt_succ_self _) _, h.arrs.apart, h.arrs.out⟩, h.hiv, h.hio, h.his, by simpa using h.le⟩
  simp only [List.length_set, map_set_int]
  exact h1
/-- an array of the state: its slice in the outer row, and its cells -/
theorem Arrs.at_ {lo : Nat} {v : Value} {l : List (List Int)} (h : Arrs w lo v l vs) {k : Nat} {a : List Int} (hk : l[k]? = some a) :
    ∃ bo co A ca, v = .slice (some ⟨bo, 0, none⟩) l.length co ∧ lo ≤ bo ∧ bo < w.heap.size ∧ k < l.length ∧ l.length ≤ co ∧ co ≤ maxLen ∧ w.cell? ⟨bo, k, none⟩ = some (.slice A a.length ca) ∧ vs[k]? = some (.slice A a.length ca) ∧
      a.length ≤ ca ∧ ca ≤ maxLen ∧ (0 < a.length → ∃ g, A = some ⟨g, 0, none⟩ ∧ lo ≤ g ∧ g < w.heap.size ∧ (∀ j, w.frozen? ⟨g, j, none⟩ = false) ∧ ∀ (j : Nat) x, a[j]? = some x → w.cell? ⟨g, j, none⟩ = some (.int .i64 x)) := by
  have hkl : k < l.length := (List.getElem?_eq_some_iff.1 hk).1
  have hkv : k < vs.length := by rw [h.len]; exact hkl
  obtain ⟨u, hu⟩ : ∃ u, vs[k]? = some u := ⟨vs[k], List.getElem?_eq_getElem hkv⟩
  have hr := h.row k u a hu hk
  rcases h.outer.2 with ⟨_, e⟩ | ⟨bo, co, cur, rfl, hb, hg, hnc, hcm, _, _⟩
  · rw [e] at hkv; simp at hkv
  · have hbl : bo < w.heap.size := (Array.getElem?_eq_some_iff.1 hg).1
    have hcell := h.outer.cellAt k (by omega)
    rw [hu] at hcell
    have hlen := h.len
    rw [hlen] at hnc ⊢
    rcases hr.2 with ⟨rfl, e⟩ | ⟨g, ca, cur', rfl, hgb, hgg, hnc', hcm', _, _⟩
    · have h0 : a.length = 0 := by first | exact e | (simpa using congrArg List.length e)
      rw [h0]
      exact ⟨bo, co, none, 0, rfl, hb, hbl, hkl, hnc, hcm, hcell, hu, Nat.le_refl _, by simp [maxLen], fun h => absurd h (by omega)⟩
    · exact ⟨bo, co, _, ca, rfl, hb, hbl, hkl, hnc, hcm, hcell, hu, hnc', hcm', fun _ => ⟨g, rfl, hgb, (Array.getElem?_eq_some_iff.1 hgg).1, fun j => hr.frozenAt j, fun j x hx => by
        have hj := (List.getElem?_eq_some_iff.1 hx).1
        rw [hr.cellAt j (by omega), List.getElem?_map, hx]
        rfl⟩⟩
theorem StateAt.setA (h : StateAt w bv va vs hi s) {k g : Nat} {a : List Int} {ca : Nat} (hk : s.arrs[k]? = some a) (hu : vs[k]? = some (.slice (some ⟨g, 0, none⟩) a.length ca)) (j : Nat) (x : Int) :
    StateAt (w.setCell ⟨g, j, none⟩ (.int .i64 x)) bv va vs hi { s with arrs := s.arrs.set k (a.set j x) } := by
  have hr := h.arrs.row k _ a hu hk
  obtain ⟨h1, h2⟩ := hr.stored j (.int .i64 x)
  have hgb := (hr.lt g rfl).1
  refine ⟨ownsRow_setCell_other h.v (by simp [Value.ownBlock]; omega) _, ⟨ownsRow_setCell_other h.arrs.outer (h.arrs.out k _ g hu rfl) _, by simpa using h.arrs.len, fun k' u b hu' hb => ?_, h.arrs.apart, h.arrs.out⟩, h.hiv, h.hio, h.his, by simpa using h.le⟩
  by_cases hkk : k' = k
  · subst hkk
    rw [hu] at hu'
    injection hu' with hu'
    subst hu'
    have hb' : b = a.set j x := by
      simp only [List.getElem?_set] at hb
      split at hb
      · split at hb
        · exact (Option.some.inj hb).symm
        · cases hb
      · rename_i hne; exact absurd trivial hne
    subst hb'
    rw [List.length_set, map_set_int]
    exact h1
  · have hb' : s.arrs[k']? = some b := by
      simp only [List.getElem?_set] at hb
      rw [if_neg (fun e => hkk e.symm)] at hb
      exact hb
    refine ownsRow_setCell_other (h.arrs.row k' u b hu' hb') ?_ _
    intro e
    exact hkk (h.arrs.apart k' k u _ g hu' hu e rfl)
end
theorem own_full {w : World} {base : Nat} {e : TypeId} {n g : Nat} {xs : List Value} (h : w.ownsRow base e 1 (.slice (some ⟨g, 0, none⟩) n n) n xs) : w.heap[g]? = some (.cells xs.toArray e (0, 0)) ∧ base ≤ g := by
  rcases h.2 with ⟨h', _⟩ | ⟨g', cap, cur, h', hb, hg, _, _, hcs, htake⟩
  · simp at h'
  · simp only [Value.slice.injEq, Option.some.injEq, Addr.mk.injEq, and_true, true_and] at h'
    obtain ⟨rfl, rfl⟩ := h'
    refine ⟨?_, hb⟩
    rw [List.take_of_length_le (by simp [hcs])] at htake
    rw [← htake]
    simpa using hg
theorem own_of_full {w : World} {base : Nat} {e : TypeId} {n g : Nat} {xs : List Value} (h : w.heap[g]? = some (.cells xs.toArray e (0, 0))) (hl : xs.length = n) (hb : base ≤ g) (hm : n ≤ maxLen) : w.ownsRow base e 1 (.slice (some ⟨g, 0, none⟩) n n) n xs :=
  ⟨by simpa using hl, .inr ⟨g, n, xs.toArray, rfl, hb, h, Nat.le_refl _, hm, by simpa using hl, by simp [← hl]⟩⟩
theorem own_less {w : World} {base base' : Nat} {e : TypeId} {size n : Nat} {v : Value} {xs : List Value} (h : w.ownsRow base e size v n xs) (hl : base' ≤ base) : w.ownsRow base' e size v n xs := by
  refine ⟨h.1, ?_⟩
  rcases h.2 with hn | ⟨g, cap, cur, e1, e2, e3⟩
  · exact .inl hn
  · exact .inr ⟨g, cap, cur, e1, by omega, e3⟩
theorem Arrs.less {w : World} {lo lo' : Nat} {v : Value} {l : List (List Int)} {vs : List Value} (h : Arrs w lo v l vs) (hl : lo' ≤ lo) : Arrs w lo' v l vs :=
  ⟨own_less h.outer hl, h.len, fun k u a hu ha => own_less (h.row k u a hu ha) hl, h.apart, h.out⟩
theorem Arrs.his {w : World} {lo : Nat} {v : Value} {l : List (List Int)} {vs : List Value} (h : Arrs w lo v l vs) : ∀ (k : Nat) u b, vs[k]? = some u → u.ownBlock = some b → b < w.heap.size := fun k u b hu hb => by
  have hk : k < l.length := by
    have := (List.getElem?_eq_some_iff.1 hu).1
    rw [h.len] at this; exact this
  exact ((h.row k u _ hu (List.getElem?_eq_getElem hk)).lt b hb).2
/-- how it ended, as it reads -/
def REnded (w : World) (v : Value) (e : Ev.Ended) : Prop := ∃ va, v = .agg #[.int .i64 e.word, .bool e.trap, va] ∧ RLists w w.heap.size va e.arrays
def RLeaks (w : World) (v : Value) (l : List Ev.Leak) : Prop :=
  ∃ us : List Value, us.length = l.length ∧ SL w w.heap.size 3 v l.length (leaksCells l us) ∧ ∀ (k : Nat) u x, us[k]? = some u → l[k]? = some x → RInts w w.heap.size u x.vals
theorem Arrs.reads {w : World} {lo : Nat} {v : Value} {l : List (List Int)} {vs : List Value} (h : Arrs w lo v l vs) : RLists w w.heap.size v l := by
  refine ⟨vs, h.len, ?_, fun k u a hu ha => ?_⟩
  · have := SL.of_own h.outer
    rw [h.len] at this
    exact this
  · have := SL.of_own (h.row k u a hu ha)
    exact this
theorem Leaks.reads {w : World} {lo : Nat} {v : Value} {l : List Ev.Leak} {us : List Value} (h : Leaks w lo v l us) : RLeaks w v l := ⟨us, h.len, SL.of_own h.row, h.val⟩
theorem REnded.stays {w w' : World} {v : Value} {e : Ev.Ended} (h : REnded w v e) (hb : Below w.heap.size w w') : REnded w' v e := by
  obtain ⟨va, h1, h2⟩ := h
  exact ⟨va, h1, h2.at_ hb (Nat.le_refl _)⟩
theorem RLeaks.stays {w w' : World} {v : Value} {l : List Ev.Leak} (h : RLeaks w v l) (hb : Below w.heap.size w w') : RLeaks w' v l := by
  obtain ⟨us, h1, h2, h3⟩ := h
  exact ⟨us, h1, SL.at_ h2 hb (Nat.le_refl _), fun k u x hu hx => SL.at_ (h3 k u x hu hx) hb (Nat.le_refl _)⟩
end Go.Proofs.Ytljcgcllhcdleaa
/- What holds of an interval of blocks alone. -/
namespace Go.Proofs.Ytljcgcllhcdleaa
open Go.RowKit
set_option linter.unusedSimpArgs false
set_option linter.unusedVariables false
/-- what holds wherever the blocks of an interval are as they are here -/
def Dep (lo hi : Nat) (w : World) (R : World → Prop) : Prop := hi ≤ w.heap.size ∧ ∀ w' : World, hi ≤ w'.heap.size → (∀ b, lo ≤ b → b < hi → w'.heap[b]? = w.heap[b]?) → R w'
theorem Dep.here {lo hi : Nat} {w : World} {R : World → Prop} (h : Dep lo hi w R) : R w := h.2 w h.1 fun _ _ _ => rfl
theorem Dep.stays {lo hi : Nat} {w w' : World} {R : World → Prop} (h : Dep lo hi w R) (hb : Below w.heap.size w w') : Dep lo hi w' R :=
  ⟨Nat.le_trans h.1 hb.size, fun u h1 h2 => h.2 u h1 fun b h3 h4 => (h2 b h3 h4).trans (hb.block b (Nat.lt_of_lt_of_le h4 h.1))⟩
theorem Dep.aside {lo hi : Nat} {w : World} {R : World → Prop} (h : Dep lo hi w R) (q o : Nat) (c : Value) (hq : q < lo ∨ hi ≤ q) : Dep lo hi (w.setCell ⟨q, o, none⟩ c) R :=
  ⟨by simpa using h.1, fun u h1 h2 => h.2 u h1 fun b h3 h4 => (h2 b h3 h4).trans (Below.heap_setCell w ⟨q, o, none⟩ c b (by show b ≠ q; omega))⟩
theorem Dep.drew {lo hi : Nat} {w : World} {R : World → Prop} (h : Dep lo hi w R) : Dep lo hi w.drew R := h
theorem Dep.less {lo lo' hi : Nat} {w : World} {R : World → Prop} (h : Dep lo hi w R) (hl : lo' ≤ lo) : Dep lo' hi w R :=
  ⟨h.1, fun u h1 h2 => h.2 u h1 fun b h3 h4 => h2 b (Nat.le_trans hl h3) h4⟩
theorem Dep.imp {lo hi : Nat} {w : World} {R S : World → Prop} (h : Dep lo hi w R) (hi' : ∀ u, R u → S u) : Dep lo hi w S := ⟨h.1, fun u h1 h2 => hi' u (h.2 u h1 h2)⟩
theorem Dep.and {lo hi : Nat} {w : World} {R S : World → Prop} (h : Dep lo hi w R) (h' : Dep lo hi w S) : Dep lo hi w (fun u => R u ∧ S u) := ⟨h.1, fun u h1 h2 => ⟨h.2 u h1 h2, h'.2 u h1 h2⟩⟩
theorem Dep.const {lo : Nat} {w : World} {R : World → Prop} (h : ∀ u, R u) : Dep lo w.heap.size w R := ⟨Nat.le_refl _, fun u _ _ => h u⟩
theorem from_own_D {w : World} {lo size n : Nat} {e : TypeId} {v : Value} {xs : List Value} (h : w.ownsRow lo e size v n xs) : from_ lo v := by
  rcases h.2 with ⟨rfl, _⟩ | ⟨g, cap, cur, rfl, h1, _⟩
  · exact from_nil _ _ _
  · exact from_some _ _ h1
theorem cell_agree {w w' : World} {b o : Nat} (h : w'.heap[b]? = w.heap[b]?) : w'.cell? ⟨b, o, none⟩ = w.cell? ⟨b, o, none⟩ := by
  unfold World.cell?
  dsimp only
  rw [h]
/-- a slice reads the same where its block is the same -/
theorem SL.dep {w : World} {lo size n : Nat} {v : Value} {xs : List Value} (h : SL w w.heap.size size v n xs) (hf : from_ lo v) : Dep lo w.heap.size w (fun u => SL u u.heap.size size v n xs) := by
  refine ⟨Nat.le_refl _, fun u h1 h2 => ?_⟩
  obtain ⟨h1', A, c, rfl, h3, h4, h5, h6⟩ := h
  refine ⟨h1', A, c, rfl, h3, h4, h5, fun hn => ?_⟩
  obtain ⟨b, o, rfl, hlt, hc⟩ := h6 hn
  have hb := hf _ _ _ rfl
  exact ⟨b, o, rfl, Nat.lt_of_lt_of_le hlt h1, fun j x hx => (cell_agree (h2 b hb hlt)).trans (hc j x hx)⟩
theorem Arrs.dep {w : World} {lo : Nat} {v : Value} {l : List (List Int)} {vs : List Value} (h : Arrs w lo v l vs) : Dep lo w.heap.size w (fun u => RLists u u.heap.size v l) := by
  have h1 := SL.dep (SL.of_own h.outer) (from_own_D h.outer)
  refine ⟨Nat.le_refl _, fun u h2 h3 => ⟨vs, h.len, by rw [← h.len]; exact h1.2 u h2 h3, fun k x a hx ha => ?_⟩⟩
  have h4 := h.row k x a hx ha
  exact (SL.dep (SL.of_own h4) (from_own_D h4)).2 u h2 h3
theorem Leaks.dep {w : World} {lo : Nat} {v : Value} {l : List Ev.Leak} {us : List Value} (h : Leaks w lo v l us) : Dep lo w.heap.size w (fun u => RLeaks u v l) := by
  have h1 := SL.dep (SL.of_own h.row) (from_own_D h.row)
  exact ⟨Nat.le_refl _, fun u h2 h3 => ⟨us, h.len, h1.2 u h2 h3, fun k x y hx hy => (SL.dep (h.val k x y hx hy) (h.low k x hx)).2 u h2 h3⟩⟩
end Go.Proofs.Ytljcgcllhcdleaa
