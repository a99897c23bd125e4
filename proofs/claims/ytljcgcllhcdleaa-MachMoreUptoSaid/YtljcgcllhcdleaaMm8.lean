import Derived.Test.YtljcgcllhcdleaaMm7
import Derived.Test.YtljcgcllhcdleaaMm5
/- flow.Seen. -/
namespace Go.Proofs.Ytljcgcllhcdleaa
open Go.RowKit
set_option linter.unusedSimpArgs false
set_option linter.unusedVariables false
theorem box_table {w : World} {t : List Int} (ht : t.length = 18) (T : TypeId) : TableAt (w.alloc (.cells (t.map (Value.int .i64)).toArray T)) w.heap.size t :=
  ⟨ht, by simp, fun k hk => by
    have hx : t[k]? = some (t.getD k 0) := by rw [List.getD_eq_getElem?_getD, List.getElem?_eq_getElem (by omega)]; rfl
    unfold World.cell?
    simp only [heap_alloc_new]
    show (t.map (Value.int .i64)).toArray[k]? = _
    rw [List.getElem?_toArray, List.getElem?_map, hx]
    rfl⟩
def tableV (t : List Int) : Value := .agg (t.map (Value.int .i64)).toArray
set_option maxHeartbeats 800000 in
theorem seenPub_any (t : List Int) (i : Ev.Instr) (v : List Int) (al : Bool) (vv : Value) (w : World) (ht : t.length = 18) (hv : RInts w w.heap.size vv v) (hop : 1 ≤ i.op) (hin : SeenIn i v.length (whichOf t i.op al)) :
    Calls Try.prog 39 #[tableV t, .agg #[.int .i64 i.op, .int .i64 i.d, .int .i64 i.a, .int .i64 i.b, .int .i64 i.c, .int .i64 i.imm], vv, .bool al] w fun e w' => ∃ v', e = .returned v' ∧ RInts w' w'.heap.size v' (Ev.seen t i v al) ∧ from_ w.heap.size v' ∧ (∀ b, v'.ownBlock = some b → b < w'.heap.size) ∧ Below w.heap.size w w' := by
  have C := Lib.hid (fun bt w ht hv => seen_any t i v al bt vv w ht hv hop hin)
  have HV := Lib.hid hv
  generalize Ev.seen t i v al = res at *
  clear hv hin
  unfold tableV
  go_enter Try.func39, Try.ntmps39
  go_wp2_with fail
  refine (C.out _ _ ((box_table ht _).stays (by (repeat' (first | (with_reducible exact Below.refl _ _) | (with_reducible assumption) | (with_reducible refine Below.alloc ?_ ?_ _) | (with_reducible refine below_drewN ?_ _) | (with_reducible refine Below.drew ?_) | (with_reducible refine Below.setCell ?_ ?_ _) | (with_reducible refine Below.trans ?_ (Below.mono (by with_reducible assumption) ?_)) | go_size)))) (SL.at_ HV.out (by (repeat' (first | (with_reducible exact Below.refl _ _) | (with_reducible assumption) | (with_reducible refine Below.alloc ?_ ?_ _) | (with_reducible refine below_drewN ?_ _) | (with_reducible refine Below.drew ?_) | (with_reducible refine Below.setCell ?_ ?_ _) | (with_reducible refine Below.trans ?_ (Below.mono (by with_reducible assumption) ?_)) | go_size))) (Nat.le_refl _))).mono ?_
  rintro e w1 ⟨v1, rfl, hR, hF, hH, hb1⟩
  obtain ⟨kc1, kf1, s1⟩ := bfacts hb1
  (try simp only [World.size_alloc, World.size_setCell, World.size_drew, World.heap_drewN, Nat.add_one_le_iff] at s1)
  (try have z1 : w.heap.size < w1.heap.size := by omega)
  have B1 : Hid (Below w.heap.size w w1) := by (show Below _ _ _); (repeat' (first | (with_reducible exact Below.refl _ _) | (with_reducible assumption) | (with_reducible refine Below.alloc ?_ ?_ _) | (with_reducible refine below_drewN ?_ _) | (with_reducible refine Below.drew ?_) | (with_reducible refine Below.setCell ?_ ?_ _) | (with_reducible refine Below.trans ?_ (Below.mono (by with_reducible assumption) ?_)) | go_size))
  obtain ⟨kd1, kg1, _⟩ := bfacts B1.out
  go_wp2_with fail
  go_ret
  exact ⟨_, rfl, hR, hF.less (by simp; omega), hH, by (repeat' (first | (with_reducible exact Below.refl _ _) | (with_reducible assumption) | (with_reducible refine Below.alloc ?_ ?_ _) | (with_reducible refine below_drewN ?_ _) | (with_reducible refine Below.drew ?_) | (with_reducible refine Below.setCell ?_ ?_ _) | (with_reducible refine Below.trans ?_ (Below.mono (by with_reducible assumption) ?_)) | go_size))⟩
end Go.Proofs.Ytljcgcllhcdleaa
/- What was seen so far, in a row of the call's own. -/
namespace Go.Proofs.Ytljcgcllhcdleaa
open Go.RowKit
set_option linter.unusedSimpArgs false
set_option linter.unusedVariables false
def leakCells (x : Ev.Leak) (u : Value) : List Value := [.int .i64 x.pc, .int .i64 x.op, u]
def leaksCells : List Ev.Leak → List Value → List Value
  | x :: l, u :: us => leakCells x u ++ leaksCells l us
  | _, _ => []
theorem leaksCells_snoc : ∀ (l : List Ev.Leak) (us : List Value) (x : Ev.Leak) (u : Value), us.length = l.length → leaksCells (l ++ [x]) (us ++ [u]) = leaksCells l us ++ leakCells x u
  | [], [], x, u, _ => by simp [leaksCells]
  | y :: l, v :: us, x, u, h => by
    have := leaksCells_snoc l us x u (by simpa using h)
    simp [leaksCells, this]
  | [], v :: us, x, u, h => by simp at h
  | y :: l, [], x, u, h => by simp at h
theorem leaksCells_length : ∀ (l : List Ev.Leak) (us : List Value), us.length = l.length → (leaksCells l us).length = l.length * 3
  | [], [], _ => rfl
  | y :: l, v :: us, h => by
    have := leaksCells_length l us (by simpa using h)
    simp [leaksCells, leakCells, this]
    omega
  | [], v :: us, h => by simp at h
  | y :: l, [], h => by simp at h
theorem leaksCells_at : ∀ (l : List Ev.Leak) (us : List Value) (k : Nat) (x : Ev.Leak) (u : Value), l[k]? = some x → us[k]? = some u → ∀ j c, (leakCells x u)[j]? = some c → (leaksCells l us)[k * 3 + j]? = some c
  | [], us, k, x, u, h, _, _, _, _ => by simp at h
  | y :: l, [], k, x, u, _, h, _, _, _ => by simp at h
  | y :: l, v :: us, 0, x, u, h1, h2, j, c, hc => by
    simp at h1 h2
    subst h1 h2
    have hj : j < (leakCells y v).length := (List.getElem?_eq_some_iff.1 hc).1
    simp only [leaksCells, Nat.zero_mul, Nat.zero_add]
    rw [List.getElem?_append_left hj]
    exact hc
  | y :: l, v :: us, k + 1, x, u, h1, h2, j, c, hc => by
    have := leaksCells_at l us k x u (by simpa using h1) (by simpa using h2) j c hc
    simp only [leaksCells]
    rw [List.getElem?_append_right (by simp [leakCells]; omega)]
    have e : (k + 1) * 3 + j - (leakCells y v).length = k * 3 + j := by simp [leakCells]; omega
    rw [e]
    exact this
structure Leaks (w : World) (lo : Nat) (v : Value) (l : List Ev.Leak) (us : List Value) : Prop where
  row : w.ownsRow lo 72 3 v l.length (leaksCells l us)
  len : us.length = l.length
  val : ∀ (k : Nat) u x, us[k]? = some u → l[k]? = some x → RInts w w.heap.size u x.vals
  low : ∀ (k : Nat) u, us[k]? = some u → from_ lo u
  out : ∀ (k : Nat) u b, us[k]? = some u → u.ownBlock = some b → v.ownBlock ≠ some b
  hi : ∀ (k : Nat) u b, us[k]? = some u → u.ownBlock = some b → b < w.heap.size
theorem Leaks.nil_ (w : World) (lo : Nat) : Leaks w lo (.slice none 0 0) [] [] :=
  ⟨World.ownsRow_nil _ _ _ _, rfl, fun k u a h => by simp at h, fun k u h => by simp at h, fun k u b h => by simp at h, fun k u b h => by simp at h⟩
theorem Leaks.stays {w w' : World} {lo : Nat} {v : Value} {l : List Ev.Leak} {us : List Value} (h : Leaks w lo v l us) (hb : Below w.heap.size w w') : Leaks w' lo v l us :=
  ⟨owns_below h.row hb, h.len, fun k u x hu hx => SL.at_ (h.val k u x hu hx) hb (Nat.le_refl _), h.low, h.out, fun k u b hu hb' => Nat.lt_of_lt_of_le (h.hi k u b hu hb') hb.size⟩
theorem Leaks.aside {w : World} {lo : Nat} {v : Value} {l : List Ev.Leak} {us : List Value} (h : Leaks w lo v l us) (k o : Nat) (c : Value) (hk : k < lo) : Leaks (w.setCell ⟨k, o, none⟩ c) lo v l us :=
  ⟨ownsRow_setCell_below h.row hk c, h.len, fun j u x hu hx => by
    have := SL.aside (h.val j u x hu hx) (h.low j u hu) k o c hk
    show SL _ _ _ _ _ _
    simpa using this, h.low, h.out, fun j u b hu hb => by simpa using h.hi j u b hu hb⟩
/-- a slice stays as it reads while a row elsewhere grows -/
theorem SL.grown {w w' : World} {size n : Nat} {v : Value} {xs : List Value} {row : Option Nat} (h : SL w w.heap.size size v n xs) (hg : w.grownBy w' row) (hne : ∀ b, v.ownBlock = some b → some b ≠ row) : SL w' w'.heap.size size v n xs := by
  obtain ⟨h1, A, c, rfl, h3, h4, h5, h6⟩ := h
  refine ⟨h1, A, c, rfl, h3, h4, h5, fun hn => ?_⟩
  obtain ⟨b, o, rfl, hlt, hc⟩ := h6 hn
  refine ⟨b, o, rfl, Nat.lt_of_lt_of_le hlt hg.size, fun j u hu => hg.cell (hc j u hu) (hne b rfl)⟩
theorem Leaks.push {w w1 w2 : World} {lo : Nat} {v v' u : Value} {l : List Ev.Leak} {us : List Value} {x : Ev.Leak} (h : Leaks w lo v l us) (hlo : lo ≤ w.heap.size) (hb : Below w.heap.size w w1)
    (hu : RInts w1 w1.heap.size u x.vals) (hf : from_ w.heap.size u) (hfl : ∀ b, u.ownBlock = some b → b < w1.heap.size)
    (hg : w1.grownBy w2 v.ownBlock) (hv : w2.ownsRow lo 72 3 v' (l.length + 1) (leaksCells l us ++ leakCells x u))
    (hat : v'.ownBlock = v.ownBlock ∨ ∃ q, v'.ownBlock = some q ∧ w1.heap.size ≤ q) : Leaks w2 lo v' (l ++ [x]) (us ++ [u]) := by
  have split : ∀ (k : Nat) y, (us ++ [u])[k]? = some y → (k < us.length ∧ us[k]? = some y) ∨ (k = us.length ∧ y = u) := fun k y hx => by
    rcases Nat.lt_or_ge k us.length with hk | hk
    · rw [List.getElem?_append_left hk] at hx; exact .inl ⟨hk, hx⟩
    · rw [List.getElem?_append_right hk] at hx
      have : k - us.length = 0 := by
        rcases Nat.eq_zero_or_pos (k - us.length) with h0 | h0
        · exact h0
        · rw [List.getElem?_eq_none (by simp; omega)] at hx; cases hx
      rw [this] at hx
      exact .inr ⟨by omega, by simpa using hx.symm⟩
  have hub : ∀ b, u.ownBlock = some b → w.heap.size ≤ b := fun b hb' => by
    cases u <;> simp [Value.ownBlock] at hb'
    rename_i a n c
    cases a with
    | none => simp at hb'
    | some a => simp at hb'; subst hb'; exact hf a n c rfl
  refine ⟨by rw [leaksCells_snoc _ _ _ _ h.len]; simpa using hv, by simp [h.len], fun k y z hy hz => ?_, fun k y hy => ?_, fun k y b hy hyb => ?_, fun k y b hy hyb => ?_⟩
  · rcases split k y hy with ⟨hk, hy⟩ | ⟨hk, rfl⟩
    · rw [List.getElem?_append_left (by rw [← h.len]; exact hk)] at hz
      exact SL.grown (SL.at_ (h.val k y z hy hz) hb (Nat.le_refl _)) hg (fun b hyb e => h.out k y b hy hyb e.symm)
    · subst hk
      rw [h.len, List.getElem?_append_right (Nat.le_refl _)] at hz
      simp at hz
      subst hz
      refine SL.grown hu hg (fun b hyb e => ?_)
      have h1 := hub b hyb
      have h2 := (h.row.lt b e.symm).2
      omega
  · rcases split k y hy with ⟨hk, hy⟩ | ⟨hk, rfl⟩
    · exact h.low k y hy
    · exact hf.less hlo
  · rcases split k y hy with ⟨hk, hy⟩ | ⟨hk, rfl⟩
    · rcases hat with e | ⟨q, e, hq⟩
      · rw [e]; exact h.out k y b hy hyb
      · rw [e]
        intro e2
        injection e2 with e2
        have h1 := h.hi k y b hy hyb
        have := hb.size
        omega
    · rcases hat with e | ⟨q, e, hq⟩
      · rw [e]
        intro e2
        have h1 := hub b hyb
        have := (h.row.lt b e2).2
        omega
      · rw [e]
        intro e2
        injection e2 with e2
        have := hfl b hyb
        omega
  · have h1 := hg.size
    have h2 := hb.size
    rcases split k y hy with ⟨hk, hy⟩ | ⟨hk, rfl⟩
    · have := h.hi k y b hy hyb; omega
    · have := hfl b hyb; omega
theorem leak_info : (Try.prog.info? 72).map (fun i => (i.zero, i.size, i.bytes)) = some (some (.agg #[.int .i64 0, .int .i64 0, .slice none 0 0]), 3, 40) := by kernel_rfl
end Go.Proofs.Ytljcgcllhcdleaa
