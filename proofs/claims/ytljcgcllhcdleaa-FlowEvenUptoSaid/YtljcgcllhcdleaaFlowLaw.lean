import Derived.Test.YtljcgcllhcdleaaRunStep
/- Chapter 7, the plain law: two runs of right flat instructions that are given the same, but for what is secret, go the same way; where nothing secret is shown all that is seen is the same. -/
namespace Ev
/-- the same, but for what is secret -/
structure Low (f : Flat) (s u : St) : Prop where
  v : ∀ p : Nat, f.secret.getD p false = false → s.v.getD p 0 = u.v.getD p 0
  len : ∀ b : Nat, (s.arrs.getD b []).length = (u.arrs.getD b []).length
  arr : ∀ b : Nat, (f.arrays.getD b default).secret = false → s.arrs.getD b [] = u.arrs.getD b []
theorem Low.val {f : Flat} {s u : St} (h : Low f s u) {p : Int} (hp : sec f.secret p = false) : val s.v p = val u.v p := h.v _ hp
theorem getD_set_nat {α : Type} (l : List α) (k p : Nat) (x d : α) : (l.set k x).getD p d = if k = p ∧ p < l.length then x else l.getD p d := by
  rw [List.getD_eq_getElem?_getD, List.getD_eq_getElem?_getD, List.getElem?_set]
  by_cases hk : k = p
  · subst hk
    by_cases hl : k < l.length
    · simp [hl]
    · simp [hl]
  · simp [hk]
theorem Low.set {f : Flat} {s u : St} (h : Low f s u) (hl : s.v.length = u.v.length) (d : Int) (x y : Int) (hxy : sec f.secret d = false → x = y) : Low f { s with v := s.v.set d.toNat x } { u with v := u.v.set d.toNat y } := by
  refine ⟨fun p hp => ?_, h.len, h.arr⟩
  show (s.v.set d.toNat x).getD p 0 = (u.v.set d.toNat y).getD p 0
  rw [getD_set_nat, getD_set_nat, hl]
  by_cases hd : d.toNat = p ∧ p < u.v.length
  · rw [if_pos hd, if_pos hd]
    exact hxy (by unfold sec; rw [hd.1]; exact hp)
  · rw [if_neg hd, if_neg hd]
    exact h.v p hp
theorem Low.store {f : Flat} {s u : St} (h : Low f s u) (ha : s.arrs.length = u.arrs.length) (b : Int) (n : Nat) (x y : Int) (hxy : arrSec f.arrays b = false → x = y) :
    Low f { s with arrs := s.arrs.set b.toNat ((s.arrs.getD b.toNat []).set n x) } { u with arrs := u.arrs.set b.toNat ((u.arrs.getD b.toNat []).set n y) } := by
  refine ⟨h.v, fun c => ?_, fun c hc => ?_⟩
  · show ((s.arrs.set _ _).getD c []).length = ((u.arrs.set _ _).getD c []).length
    rw [getD_set_nat, getD_set_nat, ha]
    by_cases hd : b.toNat = c ∧ c < u.arrs.length
    · rw [if_pos hd, if_pos hd, List.length_set, List.length_set]; exact h.len _
    · rw [if_neg hd, if_neg hd]; exact h.len c
  · show (s.arrs.set _ _).getD c [] = (u.arrs.set _ _).getD c []
    rw [getD_set_nat, getD_set_nat, ha]
    by_cases hd : b.toNat = c ∧ c < u.arrs.length
    · rw [if_pos hd, if_pos hd]
      obtain ⟨rfl, _⟩ := hd
      rw [h.arr _ hc, hxy hc]
    · rw [if_neg hd, if_neg hd]; exact h.arr c hc
theorem pub_reads {f : Flat} {k : Nat} {i : Instr} (h : Sound f k i) (h15 : i.op ≤ 15) : sec f.secret i.d = false → ∀ p ∈ reads i, sec f.secret p = false := by
  intro hd p hp
  have hl := h.labels
  unfold secrets at hl
  rw [if_neg (by omega), if_neg (by omega), if_neg (by omega), if_neg (by omega), hd] at hl
  simp at hl
  exact hl p hp
theorem step_store {i : Instr} {k : Nat} {s : St} (h : i.op = 17) : step i k s =
    ((if val s.v i.a < (s.arrs.getD i.b.toNat []).length then { s with arrs := s.arrs.set i.b.toNat ((s.arrs.getD i.b.toNat []).set (val s.v i.a).toNat (val s.v i.d)) } else s), some (k + 1)) := by
  unfold step; rw [if_neg (by omega), if_neg (by omega), if_neg (by omega), if_neg (by omega), if_neg (by omega), if_pos h]
theorem seen_most {t : List Int} {i : Instr} (v : List Int) (h19 : ¬ i.op = 19) (h17 : 1 ≤ i.op ∧ i.op ≤ 17) : seen t i v false =
    (if hasBit (seenOf t i.op) 0 then [val v i.a] else []) ++ (if hasBit (seenOf t i.op) 1 then (if i.op = 17 then [val v i.d] else if i.op = 16 then [] else [val v i.b]) else []) ++ (if hasBit (seenOf t i.op) 2 then [val v i.c] else []) := by
  unfold seen; rw [if_neg h19, if_neg (fun hh => hh h17)]; rfl
theorem seen_none {t : List Int} {i : Instr} (v : List Int) (h19 : ¬ i.op = 19) (h17 : ¬ (1 ≤ i.op ∧ i.op ≤ 17)) : seen t i v false = [] := by
  unfold seen; rw [if_neg h19, if_pos h17]
theorem low_step {f : Flat} {k : Nat} {i : Instr} {s u : St} (h : Low f s u) (hi : Sound f k i) (hs : Fine f s) (hu : Fine f u) : (step i k s).2 = (step i k u).2 ∧ Low f (step i k s).1 (step i k u).1 := by
  have hl : s.v.length = u.v.length := hs.len.trans hu.len.symm
  have ha : s.arrs.length = u.arrs.length := hs.alen.trans hu.alen.symm
  have hop := hi.op
  have hlab := hi.labels
  rcases (show i.op ≤ 12 ∨ i.op = 13 ∨ i.op = 14 ∨ i.op = 15 ∨ i.op = 16 ∨ i.op = 17 ∨ i.op = 18 ∨ i.op = 19 ∨ (i.op = 20 ∨ i.op = 21) by omega) with h1 | h1 | h1 | h1 | h1 | h1 | h1 | h1 | h1
  · rw [step_two h1, step_two h1]
    refine ⟨rfl, h.set hl _ _ _ fun hd => ?_⟩
    have hr := pub_reads hi (by omega) hd
    have e : reads i = [i.a, i.b] := by unfold reads; rw [if_pos (by omega)]
    rw [e] at hr
    rw [h.val (hr i.a (by simp)), h.val (hr i.b (by simp))]
  · rw [step_sel h1, step_sel h1]
    refine ⟨rfl, h.set hl _ _ _ fun hd => ?_⟩
    have hr := pub_reads hi (by omega) hd
    have e : reads i = [i.a, i.b, i.c] := by unfold reads; rw [if_neg (by omega), if_pos h1]
    rw [e] at hr
    rw [h.val (hr i.a (by simp)), h.val (hr i.b (by simp)), h.val (hr i.c (by simp))]
  · rw [step_const h1, step_const h1]
    exact ⟨rfl, h.set hl _ _ _ fun _ => rfl⟩
  · rw [step_move h1, step_move h1]
    refine ⟨rfl, h.set hl _ _ _ fun hd => ?_⟩
    have hr := pub_reads hi (by omega) hd
    have e : reads i = [i.a] := by unfold reads; rw [if_neg (by omega), if_neg (by omega), if_neg (by omega), if_pos (by omega)]
    rw [e] at hr
    rw [h.val (hr i.a (by simp))]
  · rw [step_load h1, step_load h1]
    unfold secrets at hlab
    rw [if_pos h1] at hlab
    simp at hlab
    refine ⟨rfl, h.set hl _ _ _ fun hd => ?_⟩
    have hb : arrSec f.arrays i.b = false := by
      cases hb : arrSec f.arrays i.b with
      | false => rfl
      | true => have := hlab.2 hb; rw [hd] at this; cases this
    rw [h.val hlab.1]
    unfold arrAt
    rw [h.arr _ hb]
  · unfold secrets at hlab
    rw [if_neg (by omega), if_pos h1] at hlab
    simp at hlab
    have hva := h.val hlab.1
    rw [step_store h1, step_store h1]
    refine ⟨rfl, ?_⟩
    dsimp only
    rw [← hva, ← h.len]
    by_cases hn : val s.v i.a < (s.arrs.getD i.b.toNat []).length
    · rw [if_pos hn, if_pos hn]
      refine h.store ha _ _ _ _ fun hb => ?_
      have hd : sec f.secret i.d = false := by
        cases hd : sec f.secret i.d with
        | false => rfl
        | true => have := hlab.2 hd; rw [hb] at this; cases this
      exact h.val hd
    · rw [if_neg hn, if_neg hn]; exact h
  · rw [step_jump h1, step_jump h1]; exact ⟨rfl, h⟩
  · unfold secrets at hlab
    rw [if_neg (by omega), if_neg (by omega), if_pos h1] at hlab
    have hva := h.val hlab
    by_cases h0 : val s.v i.a = 0
    · rw [step_zero_yes h1 h0, step_zero_yes h1 (by rw [← hva]; exact h0)]; exact ⟨rfl, h⟩
    · rw [step_zero_no h1 h0, step_zero_no h1 (by rw [← hva]; exact h0)]; exact ⟨rfl, h⟩
  · rw [step_end h1, step_end h1]; exact ⟨rfl, h⟩
/-- does an instruction show what is secret, by a table? -/
def shows (f : Flat) (t : List Int) (i : Instr) : Bool :=
  decide (1 ≤ i.op ∧ i.op ≤ 17) && ((hasBit (seenOf t i.op) 0 && sec f.secret i.a) || (hasBit (seenOf t i.op) 1 && !decide (i.op = 16) && sec f.secret (if i.op = 17 then i.d else i.b)) || (hasBit (seenOf t i.op) 2 && sec f.secret i.c))
theorem low_seen {f : Flat} {t : List Int} {k : Nat} {i : Instr} {s u : St} (h : Low f s u) (hi : Sound f k i) (hn : shows f t i = false) : seen t i s.v false = seen t i u.v false := by
  by_cases h19 : i.op = 19
  · unfold seen
    rw [if_pos h19, if_pos h19]
    have hlab := hi.labels
    unfold secrets at hlab
    rw [if_neg (by omega), if_neg (by omega), if_pos h19] at hlab
    rw [h.val hlab]
  by_cases h17 : 1 ≤ i.op ∧ i.op ≤ 17
  · rw [seen_most _ h19 h17, seen_most _ h19 h17]
    unfold shows at hn
    rw [decide_eq_true h17, Bool.true_and] at hn
    simp only [Bool.or_eq_false_iff] at hn
    obtain ⟨⟨n0, n1⟩, n2⟩ := hn
    congr 1
    · congr 1
      · cases hb : hasBit (seenOf t i.op) 0 with
        | false => rfl
        | true =>
          rw [hb, Bool.true_and] at n0
          simp only [if_true]
          rw [h.val n0]
      · cases hb : hasBit (seenOf t i.op) 1 with
        | false => rfl
        | true =>
          rw [hb, Bool.true_and] at n1
          simp only [if_true]
          by_cases h1 : i.op = 17
          · rw [if_pos h1, if_pos h1]
            rw [if_pos h1, decide_eq_false (by omega : ¬ i.op = 16)] at n1
            rw [h.val (by simpa using n1)]
          · rw [if_neg h1, if_neg h1]
            by_cases h2 : i.op = 16
            · rw [if_pos h2, if_pos h2]
            · rw [if_neg h2, if_neg h2]
              rw [if_neg h1, decide_eq_false h2] at n1
              rw [h.val (by simpa using n1)]
    · cases hb : hasBit (seenOf t i.op) 2 with
      | false => rfl
      | true =>
        rw [hb, Bool.true_and] at n2
        simp only [if_true]
        rw [h.val n2]
  · rw [seen_none _ h19 h17, seen_none _ h19 h17]
/-- the same way -/
structure Ways (A B : Ended × List Leak) : Prop where
  trap : A.1.trap = B.1.trap
  len : A.2.length = B.2.length
  at_ : ∀ (j : Nat) l m, A.2[j]? = some l → B.2[j]? = some m → l.pc = m.pc ∧ l.op = m.op
theorem low_run {f : Flat} (hr : Right f) (t : List Int) : ∀ (n k : Nat) (s u : St), f.code.length ≤ n + k → k < f.code.length → Low f s u → Fine f s → Fine f u → Ways (runFrom f.code t n k s) (runFrom f.code t n k u) ∧
    ((∀ i ∈ f.code, shows f t i = false) → (runFrom f.code t n k s).2 = (runFrom f.code t n k u).2)
  | 0, k, s, u, hn, hk, _, _, _ => by omega
  | n + 1, k, s, u, hn, hk, h, hs, hu => by
    obtain ⟨i, hi⟩ : ∃ i, f.code[k]? = some i := ⟨f.code[k], List.getElem?_eq_getElem hk⟩
    have hsd := hr.sound hi
    obtain ⟨e2, e1⟩ := low_step h hsd hs hu
    have hmem : i ∈ f.code := List.mem_of_getElem? hi
    rcases hss : step i k s with ⟨s', os⟩
    rcases huu : step i k u with ⟨u', ou⟩
    rw [hss, huu] at e2 e1
    dsimp only at e2 e1
    subst e2
    cases os with
    | none =>
      rw [runFrom_end hi hss, runFrom_end hi huu]
      refine ⟨⟨rfl, rfl, fun j l m hl hm => ?_⟩, fun hno => ?_⟩
      · cases j with
        | zero => simp at hl hm; subst hl hm; exact ⟨rfl, rfl⟩
        | succ j => simp at hl
      · have := low_seen (t := t) h hsd (hno i hmem)
        simp only [leak, this]
    | some k' =>
      rw [runFrom_on hi hss, runFrom_on hi huu]
      have hs' := hs.step hsd
      have hu' := hu.step hsd
      rw [hss] at hs'
      rw [huu] at hu'
      obtain ⟨h1, h2⟩ := step_on hr (s := s) (k' := k') hi (by rw [hss])
      obtain ⟨w, r⟩ := low_run hr t n k' s' u' (by omega) h2 e1 hs' hu'
      refine ⟨⟨w.trap, by simp [w.len], fun j l m hl hm => ?_⟩, fun hno => ?_⟩
      · cases j with
        | zero => simp at hl hm; subst hl hm; exact ⟨rfl, rfl⟩
        | succ j => exact w.at_ j l m (by simpa using hl) (by simpa using hm)
      · have := low_seen (t := t) h hsd (hno i hmem)
        simp only [leak, this, r hno]
/-- given the same, but for what is secret -/
structure AlikeF (f : Flat) (g h : Given) : Prop where
  gl : (g.words.length : Int) = f.params
  hl : (h.words.length : Int) = f.params
  words : ∀ p : Nat, (p : Int) < f.params → f.secret.getD p false = false → g.words.getD p 0 = h.words.getD p 0
  alen : ∀ b : Nat, (g.arrays.getD b []).length = (h.arrays.getD b []).length
  arrs : ∀ b : Nat, (f.arrays.getD b default).secret = false → g.arrays.getD b [] = h.arrays.getD b []
theorem start_at (n : Nat) (g : Given) (p : Nat) (hn : g.words.length ≤ n) : (start n g).v.getD p 0 = if p < g.words.length then g.words.getD p 0 else 0 := by
  unfold start
  show ((g.words ++ List.replicate (n - g.words.length) 0).take n).getD p 0 = _
  rw [List.take_of_length_le (by simp; omega), List.getD_eq_getElem?_getD, List.getD_eq_getElem?_getD]
  by_cases hp : p < g.words.length
  · rw [List.getElem?_append_left hp, if_pos hp]
  · rw [List.getElem?_append_right (by omega), if_neg hp, List.getElem?_replicate]
    split <;> rfl
theorem low_start {f : Flat} {g h : Given} (hr : Right f) (ha : AlikeF f g h) : Low f (start f.secret.length g) (start f.secret.length h) := by
  have h1 := ha.gl
  have h2 := ha.hl
  have h3 := hr.p1
  refine ⟨fun p hp => ?_, ha.alen, ha.arrs⟩
  rw [start_at _ _ _ (by omega), start_at _ _ _ (by omega)]
  by_cases hp' : p < g.words.length
  · rw [if_pos hp', if_pos (by omega)]
    exact ha.words p (by omega) hp
  · rw [if_neg hp', if_neg (by omega)]
theorem ways {f : Flat} {g h : Given} (hr : Right f) (t : List Int) (ha : AlikeF f g h) (hg : Fine f (start f.secret.length g)) (hh : Fine f (start f.secret.length h)) :
    Ways (run f t g) (run f t h) ∧ ((∀ i ∈ f.code, shows f t i = false) → (run f t g).2 = (run f t h).2) :=
  low_run hr t f.code.length 0 _ _ (by omega) (by have := hr.len1; omega) (low_start hr ha) hg hh
end Ev
