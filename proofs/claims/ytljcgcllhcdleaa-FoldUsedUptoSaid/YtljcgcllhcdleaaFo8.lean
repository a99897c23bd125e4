import Derived.Test.YtljcgcllhcdleaaFo7
/- Chapter 8, in plain words: the three laws. -/
namespace Ev
theorem lg_err (t : List Int) : ∀ (r : List Instr) (m : Mk) (at_ : List Nat), (lgFrom t r m at_).1 = 0 ∨ (lgFrom t r m at_).1 = 4 ∨ (lgFrom t r m at_).1 = 11
  | [], m, at_ => .inl rfl
  | i :: r, m, at_ => by
    unfold lgFrom
    split
    · exact lg_err t r _ _
    · cases mkOther m i with
      | none => dsimp only; split <;> simp
      | some m' =>
        dsimp only
        split
        · simp
        · exact lg_err t r _ _
theorem legal_err (f : Flat) (t : List Int) : (legal f t).1 = 0 ∨ (((legal f t).1 = 4 ∨ (legal f t).1 = 11) ∧ (legal f t).2 = noFlat) := by
  have := lg_err t f.code ⟨[], f.secret⟩ []
  unfold legal legalOf
  generalize lgFrom t f.code ⟨[], f.secret⟩ [] = X at *
  by_cases h : X.1 ≠ 0
  · rw [if_pos h]; exact .inr ⟨by simp only; omega, rfl⟩
  rw [if_neg h]
  split
  · exact .inr ⟨.inl rfl, rfl⟩
  split
  · exact .inr ⟨.inr rfl, rfl⟩
  · exact .inl rfl
theorem legal_ok {f : Flat} {t : List Int} (hr : Right f) (ht : wrong t = 0) (h : (legal f t).1 = 0) :
    ∃ at_ m, LgInv f f.code.length at_ m ∧ (legal f t).2 = made f at_ m ∧ m.code.length ≤ 12000 ∧ ∀ i ∈ m.code, i.op ≤ 17 → mkShows m t i = false := by
  unfold legal legalOf at *
  have hinv := lg_inv ht (fun k i hk => hr.sound hk) f.code 0 ⟨[], f.secret⟩ [] rfl (by omega) (lg_start f)
  generalize lgFrom t f.code ⟨[], f.secret⟩ [] = X at *
  obtain ⟨e, at_, m⟩ := X
  dsimp only at *
  by_cases h1 : e ≠ 0
  · rw [if_pos h1] at h; exact absurd h h1
  rw [if_neg h1] at h ⊢
  by_cases h2 : 12000 < m.code.length
  · rw [if_pos h2] at h; exact absurd h (by decide)
  rw [if_neg h2] at h ⊢
  by_cases h3 : m.code.any (fun i => decide (i.op ≤ 17) && mkShows m t i) = true
  · rw [if_pos h3] at h; exact absurd h (by decide)
  rw [if_neg h3]
  obtain rfl : e = 0 := by omega
  refine ⟨at_, m, hinv _ _ rfl, rfl, by omega, fun i hi hop => ?_⟩
  cases hs : mkShows m t i with
  | false => rfl
  | true => exact absurd (List.any_eq_true.2 ⟨i, hi, by rw [hs, decide_eq_true hop]; rfl⟩) h3
structure LegalGood (f x : Flat) (t : List Int) : Prop where
  right : Right x
  params : x.params = f.params
  arrays : x.arrays = f.arrays
  sec : ∃ s, x.secret = f.secret ++ s
  even : ∀ i ∈ x.code, shows x t i = false
theorem legal_shows {f : Flat} {t : List Int} (hr : Right f) (ht : wrong t = 0) (h : (legal f t).1 = 0) : LegalGood f (legal f t).2 t := by
  obtain ⟨at_, m, hi, hx, hl, hs⟩ := legal_ok hr ht h
  rw [hx]
  refine ⟨made_right hi hr hl, rfl, rfl, hi.sec, fun i hi' => ?_⟩
  unfold made at hi'
  obtain ⟨y, hy, rfl⟩ := List.mem_map.1 hi'
  obtain ⟨e1, e2, e3, e4, e5⟩ := reloc_op at_ y
  by_cases h17 : y.op ≤ 17
  · have := hs y hy h17
    unfold mkShows at this
    unfold shows at this ⊢
    rw [e1, e2, e3, e4, e5]
    exact this
  · unfold shows
    rw [e1, decide_eq_false (by omega)]
    rfl
theorem legal_same {f : Flat} {t : List Int} {g : Given} (hr : Right f) (ht : wrong t = 0) (h : (legal f t).1 = 0) (hw : g.words.length ≤ f.secret.length) (hF : Fine f (start f.secret.length g)) (t' : List Int) : (run f t' g).1 = (run (legal f t).2 t' g).1 := by
  obtain ⟨at_, m, hi, hx, hl, hs⟩ := legal_ok hr ht h
  rw [hx]
  obtain ⟨s, hsm⟩ := hi.sec
  have hn : f.secret.length ≤ m.secret.length := by rw [hsm, List.length_append]; omega
  unfold run
  have h1 := hr.len1
  have := sim hi hr t' f.code.length 0 (made f at_ m).code.length (start f.secret.length g) (start m.secret.length g) (by omega) h1 (by simp [made]) hF ⟨?_, fun p h1 h2 => ?_, rfl⟩
  · rw [hi.zero] at this; exact this
  · unfold start; simp; omega
  · unfold val
    rw [start_at _ _ _ (by omega), start_at _ _ _ hw]
/-- a table that shows nothing of what all else can be made of -/
def plainT (t : List Int) : Bool := decide (seenOf t 1 = 0 ∧ seenOf t 2 = 0 ∧ seenOf t 3 = 0 ∧ seenOf t 4 = 0 ∧ seenOf t 5 = 0 ∧ seenOf t 15 = 0) && decide (seenOf t 6 % 2 = 0 ∧ seenOf t 7 % 2 = 0 ∧ seenOf t 17 / 2 = 0)
def cnt (f : Flat) (t : List Int) (l : List Instr) : Nat := (l.filter (shows f t)).length
def noWay (i : Instr) : Bool := decide (i.op = 1 ∨ i.op = 2 ∨ i.op = 3 ∨ i.op = 4 ∨ i.op = 5 ∨ i.op = 15 ∨ i.op = 17)
theorem bit_zero (k : Nat) : hasBit 0 k = false := by
  unfold hasBit
  simp
theorem bits_of_most {t : List Int} {op : Int} (ht : wrong t = 0) (h : 1 ≤ op ∧ op ≤ 17) (k : Nat) (hk : k < 3) (hb : hasBit (most op) k = false) : hasBit (seenOf t op) k = false := by
  have hms : most op = 0 ∨ most op = 1 ∨ most op = 3 ∨ most op = 7 := by unfold most all; split <;> (try split) <;> (try split) <;> (try split) <;> (try split) <;> (try split) <;> simp
  have hsm := (sub_small hms (table_bits ht h.1 h.2)).2
  cases hh : hasBit (seenOf t op) k with
  | false => rfl
  | true => rw [hsm k hk hh] at hb; cases hb
theorem shows_ops {f : Flat} {t : List Int} {k : Nat} {i : Instr} (ht : wrong t = 0) (hs : Sound f k i) (h : shows f t i = true) : noWay i = true ∨ (6 ≤ i.op ∧ i.op ≤ 13) := by
  unfold shows at h
  simp only [Bool.and_eq_true, decide_eq_true_eq] at h
  obtain ⟨h1, h2⟩ := h
  unfold noWay
  rw [decide_eq_true_eq]
  by_cases c14 : i.op = 14
  · exfalso
    have hm : most i.op = 0 := by rw [c14]; rfl
    rw [bits_of_most ht h1 0 (by decide) (by rw [hm]; decide), bits_of_most ht h1 1 (by decide) (by rw [hm]; decide), bits_of_most ht h1 2 (by decide) (by rw [hm]; decide)] at h2
    simp at h2
  by_cases c16 : i.op = 16
  · exfalso
    have hm : most i.op = 1 := by rw [c16]; rfl
    rw [bits_of_most ht h1 1 (by decide) (by rw [hm]; decide), bits_of_most ht h1 2 (by decide) (by rw [hm]; decide)] at h2
    have hl := hs.labels
    unfold secrets at hl
    rw [if_pos c16] at hl
    simp at h2 hl
    rw [h2.2] at hl
    simp at hl
  · omega
theorem lg_none {f : Flat} {t : List Int} (ht : wrong t = 0) (hs : ∀ (k : Nat) i, f.code[k]? = some i → Sound f k i) : ∀ (r : List Instr) (k : Nat) (m : Mk) (at_ : List Nat), f.code.drop k = r → k + r.length = f.code.length → m.secret = f.secret → (∀ i ∈ r, shows f t i = false) → ∃ at', lgFrom t r m at_ = (0, at', ⟨m.code ++ r, f.secret⟩)
  | [], k, m, at_, hr, hk, hm, hn => ⟨at_, by unfold lgFrom; rw [List.append_nil, ← hm]⟩
  | i :: r, k, m, at_, hr, hk, hm, hn => by
    have hik : f.code[k]? = some i := by
      have : (f.code.drop k)[0]? = some i := by rw [hr]; rfl
      rw [List.getElem?_drop] at this
      simpa using this
    have hr' : f.code.drop (k + 1) = r := by
      rw [show k + 1 = 1 + k by omega, Nat.add_comm, ← List.drop_drop, hr]; rfl
    have hk' : k + 1 + r.length = f.code.length := by rw [List.length_cons] at hk; omega
    unfold lgFrom
    rw [if_pos (.inr (by rw [shows_pre (hs k i hik) ht (s := []) (by rw [hm, List.append_nil])]; exact hn i List.mem_cons_self))]
    obtain ⟨at', h⟩ := lg_none ht hs r (k + 1) (m.put i) (at_ ++ [m.code.length]) hr' hk' hm (fun j hj => hn j (List.mem_cons_of_mem _ hj))
    exact ⟨at', by rw [h]; simp [Mk.put]⟩
theorem lg_when {f : Flat} {t : List Int} (ht : wrong t = 0) (hs : ∀ (k : Nat) i, f.code[k]? = some i → Sound f k i) : ∀ (r : List Instr) (k : Nat) (m : Mk) (at_ : List Nat), f.code.drop k = r → k + r.length = f.code.length → (∃ s, m.secret = f.secret ++ s) → m.code.length + r.length + 1000 * cnt f t r ≤ 12000 →
    ((∃ i ∈ r, shows f t i = true ∧ noWay i = true) → (lgFrom t r m at_).1 = 11) ∧ ((∀ i ∈ r, shows f t i = true → noWay i = false) → (lgFrom t r m at_).1 = 0 ∧ (lgFrom t r m at_).2.2.code.length ≤ 12000)
  | [], k, m, at_, hr, hk, hm, hb => ⟨fun ⟨i, hi, _⟩ => absurd hi (by simp), fun _ => ⟨rfl, by unfold lgFrom; simp [cnt] at hb; exact hb⟩⟩
  | i :: r, k, m, at_, hr, hk, hm, hb => by
    have hik : f.code[k]? = some i := by
      have : (f.code.drop k)[0]? = some i := by rw [hr]; rfl
      rw [List.getElem?_drop] at this
      simpa using this
    have hr' : f.code.drop (k + 1) = r := by
      rw [show k + 1 = 1 + k by omega, Nat.add_comm, ← List.drop_drop, hr]; rfl
    have hk' : k + 1 + r.length = f.code.length := by rw [List.length_cons] at hk; omega
    obtain ⟨s, hsm⟩ := hm
    have hpre := shows_pre (hs k i hik) ht hsm
    have hsnd := hs k i hik
    rw [List.length_cons] at hb
    cases hsh : shows f t i with
    | false =>
      have hc : cnt f t (i :: r) = cnt f t r := by unfold cnt; rw [List.filter_cons_of_neg (by simp [hsh])]
      rw [hc] at hb
      unfold lgFrom
      rw [if_pos (.inr (hpre.trans hsh))]
      obtain ⟨h1, h2⟩ := lg_when ht hs r (k + 1) (m.put i) (at_ ++ [m.code.length]) hr' hk' ⟨s, hsm⟩ (by simp [Mk.put]; omega)
      refine ⟨fun ⟨j, hj, hjs, hjn⟩ => h1 ?_, fun hall => h2 (fun j hj => hall j (List.mem_cons_of_mem _ hj))⟩
      rcases List.mem_cons.1 hj with rfl | hj
      · rw [hsh] at hjs; cases hjs
      · exact ⟨j, hj, hjs, hjn⟩
    | true =>
      have hc : cnt f t (i :: r) = cnt f t r + 1 := by unfold cnt; rw [List.filter_cons_of_pos hsh]; simp
      rw [hc] at hb
      have h17 : i.op ≤ 17 := by
        unfold shows at hsh
        simp only [Bool.and_eq_true, decide_eq_true_eq] at hsh
        exact hsh.1.2
      unfold lgFrom
      rw [if_neg (by rw [hpre, hsh]; simp; exact h17)]
      cases ho : mkOther m i with
      | none =>
        dsimp only
        rw [if_neg (by omega)]
        have hno : noWay i = true := by
          rcases shows_ops ht hsnd hsh with h | h
          · exact h
          · unfold mkOther at ho
            cases hq : mkOut m i with
            | none => exact absurd h (out_none hq)
            | some r => rw [hq] at ho; cases ho
        exact ⟨fun _ => rfl, fun hall => by rw [hall i List.mem_cons_self hsh] at hno; cases hno⟩
      | some m2 =>
        dsimp only
        obtain ⟨l, s', _, h2, h3, _⟩ := other_blk hsnd ht hsm (hpre.trans hsh) ho
        have hlen : m2.code.length ≤ m.code.length + 963 := by
          unfold mkOther at ho
          cases hq : mkOut m i with
          | none => rw [hq] at ho; cases ho
          | some q =>
            rw [hq] at ho
            simp only [Option.map_some] at ho
            injection ho with ho
            subst ho
            have := out_code hq
            simp [Mk.put]; omega
        rw [if_neg (by omega)]
        obtain ⟨h4, h5⟩ := lg_when ht hs r (k + 1) m2 (at_ ++ [m.code.length]) hr' hk' ⟨s ++ s', by rw [h3, hsm, List.append_assoc]⟩ (by omega)
        have hyes : noWay i = false := by
          unfold mkOther at ho
          cases hq : mkOut m i with
          | none => rw [hq] at ho; cases ho
          | some q => have := out_some hq; unfold noWay; rw [decide_eq_false (by omega)]
        refine ⟨fun ⟨j, hj, hjs, hjn⟩ => h4 ?_, fun hall => h5 (fun j hj => hall j (List.mem_cons_of_mem _ hj))⟩
        rcases List.mem_cons.1 hj with rfl | hj
        · rw [hyes] at hjn; cases hjn
        · exact ⟨j, hj, hjs, hjn⟩
/-- an instruction that shows nothing, of places that are there -/
def Cln (S : List Bool) (t : List Int) (x : Instr) : Prop := (∀ p ∈ reads x, InP S p) ∧ mkShows ⟨[], S⟩ t x = false
theorem Cln.app {S : List Bool} {t : List Int} {x : Instr} (h : Cln S t x) (ht : wrong t = 0) (s : List Bool) : Cln (S ++ s) t x :=
  ⟨fun p hp => (h.1 p hp).app s, (shows_pre' (f := ⟨[], S, 0, []⟩) (m := ⟨[], S ++ s⟩) h.1 ht rfl).trans h.2⟩
theorem good_clean {S : List Bool} {t : List Int} {q : Instr} (ht : wrong t = 0) (hp : plainT t = true) (h : GoodI S q) : Cln S t q := by
  unfold plainT at hp
  simp only [Bool.and_eq_true, decide_eq_true_eq] at hp
  obtain ⟨⟨p1, p2, p3, p4, p5, p15⟩, p6, p7, p17⟩ := hp
  rcases h.op with ⟨h1, h2⟩ | ⟨h1, h2, h3, h4, h5⟩
  · have hr : reads q = [] := by unfold reads; rw [if_neg (by omega), if_neg (by omega), if_neg (by omega), if_neg (by omega)]
    refine ⟨by rw [hr]; simp, ?_⟩
    have hm : most q.op = 0 := by rw [h1]; rfl
    unfold mkShows shows
    rw [bits_of_most ht (by omega) 0 (by decide) (by rw [hm]; decide), bits_of_most ht (by omega) 1 (by decide) (by rw [hm]; decide), bits_of_most ht (by omega) 2 (by decide) (by rw [hm]; decide)]
    simp
  · have hr : reads q = [q.a, q.b] := by unfold reads; rw [if_pos (by omega)]
    refine ⟨fun p hp => ?_, ?_⟩
    · rw [hr] at hp; simp at hp; rcases hp with rfl | rfl
      · exact h2
      · exact h3
    have hm : most q.op = 3 := by unfold most all; rw [if_neg (by omega), if_pos (by omega)]
    unfold mkShows shows Mk.flat
    dsimp only
    rw [bits_of_most ht (by omega) 2 (by decide) (by rw [hm]; decide), if_neg (show ¬ q.op = 17 by omega)]
    by_cases h6 : 6 ≤ q.op
    · have e0 : hasBit (seenOf t q.op) 0 = false := by
        unfold hasBit
        have : seenOf t q.op % 2 = 0 := by rcases (show q.op = 6 ∨ q.op = 7 by omega) with h | h <;> rw [h] <;> assumption
        simp; omega
      rw [e0, h5 h6]
      simp
    · have e0 : seenOf t q.op = 0 := by rcases (show q.op = 1 ∨ q.op = 2 ∨ q.op = 3 ∨ q.op = 4 ∨ q.op = 5 by omega) with h | h | h | h | h <;> rw [h] <;> assumption
      rw [e0, bit_zero, bit_zero]
      simp
theorem lg_clean {f : Flat} {t : List Int} (ht : wrong t = 0) (hp : plainT t = true) (hs : ∀ (k : Nat) i, f.code[k]? = some i → Sound f k i) : ∀ (r : List Instr) (k : Nat) (m : Mk) (at_ : List Nat), f.code.drop k = r → k + r.length = f.code.length → (∃ s, m.secret = f.secret ++ s) → (∀ x ∈ m.code, x.op ≤ 17 → Cln m.secret t x) →
    (lgFrom t r m at_).1 = 0 → ∀ x ∈ (lgFrom t r m at_).2.2.code, x.op ≤ 17 → Cln (lgFrom t r m at_).2.2.secret t x
  | [], k, m, at_, hr, hk, hm, hc, h => hc
  | i :: r, k, m, at_, hr, hk, hm, hc, h => by
    have hik : f.code[k]? = some i := by
      have : (f.code.drop k)[0]? = some i := by rw [hr]; rfl
      rw [List.getElem?_drop] at this
      simpa using this
    have hr' : f.code.drop (k + 1) = r := by
      rw [show k + 1 = 1 + k by omega, Nat.add_comm, ← List.drop_drop, hr]; rfl
    have hk' : k + 1 + r.length = f.code.length := by rw [List.length_cons] at hk; omega
    obtain ⟨s, hsm⟩ := hm
    have hsnd := hs k i hik
    unfold lgFrom at h ⊢
    by_cases hcn : 17 < i.op ∨ mkShows m t i = false
    · rw [if_pos hcn] at h ⊢
      refine lg_clean ht hp hs r (k + 1) _ _ hr' hk' ⟨s, hsm⟩ (fun x hx hop => ?_) h
      rcases List.mem_append.1 hx with hx | hx
      · exact hc x hx hop
      · simp at hx
        subst hx
        rcases hcn with hcn | hcn
        · omega
        · exact ⟨fun p hp => by show InP m.secret p; rw [hsm]; exact InP.app s (hsnd.reads p hp), hcn⟩
    · rw [if_neg hcn] at h ⊢
      have hsh : mkShows m t i = true := by
        cases hh : mkShows m t i with
        | true => rfl
        | false => exact absurd (.inr hh) hcn
      cases ho : mkOther m i with
      | none => rw [ho] at h; dsimp only at h; split at h <;> cases h
      | some m2 =>
        rw [ho] at h
        dsimp only at h ⊢
        by_cases hl : 12000 < m2.code.length
        · rw [if_pos hl] at h; cases h
        rw [if_neg hl] at h ⊢
        obtain ⟨l, s', _, h2, h3, h4⟩ := other_blk hsnd ht hsm hsh ho
        refine lg_clean ht hp hs r (k + 1) _ _ hr' hk' ⟨s ++ s', by rw [h3, hsm, List.append_assoc]⟩ (fun x hx hop => ?_) h
        rw [h2] at hx
        rcases List.mem_append.1 hx with hx | hx
        · rw [h3]; exact (hc x hx hop).app ht s'
        · rcases h4 with rfl | ⟨_, _, seg, out, rfl, hout, hg, _⟩
          · -- a block of one: an instruction that shows
            exfalso
            unfold mkOther at ho
            cases hq : mkOut m i with
            | none => rw [hq] at ho; cases ho
            | some q =>
              rw [hq] at ho
              simp only [Option.map_some] at ho
              injection ho with ho
              subst ho
              have h5 := out_code hq
              have := congrArg List.length h2
              simp [Mk.put] at this
              omega
          · rcases List.mem_append.1 hx with hx | hx
            · exact good_clean ht hp (hg x hx).1
            · simp at hx
              subst hx
              have hr1 : reads (⟨15, i.d, out, 0, 0, 0⟩ : Instr) = [out] := rfl
              refine ⟨(by rw [hr1]; intro p hp; simp at hp; subst hp; exact hout), ?_⟩
              unfold plainT at hp
              simp only [Bool.and_eq_true, decide_eq_true_eq] at hp
              unfold mkShows shows
              dsimp only
              rw [hp.1.2.2.2.2.2, bit_zero, bit_zero, bit_zero]
              simp
theorem legal_when {f : Flat} {t : List Int} (hr : Right f) (ht : wrong t = 0) (hb : f.code.length + 1000 * cnt f t f.code ≤ 12000) :
    (cnt f t f.code = 0 → (legal f t).1 = 0) ∧ ((∃ i ∈ f.code, shows f t i = true ∧ noWay i = true) → (legal f t).1 = 11) ∧ ((∀ i ∈ f.code, shows f t i = true → noWay i = false) → plainT t = true → (legal f t).1 = 0) := by
  have hs : ∀ (k : Nat) i, f.code[k]? = some i → Sound f k i := fun k i hk => hr.sound hk
  have hw := lg_when ht hs f.code 0 ⟨[], f.secret⟩ [] rfl (by omega) ⟨[], by simp⟩ (by simp; omega)
  refine ⟨fun h0 => ?_, fun hn => ?_, fun hn hp => ?_⟩
  · have hno : ∀ i ∈ f.code, shows f t i = false := fun i hi => by
      cases hh : shows f t i with
      | false => rfl
      | true =>
        have : i ∈ f.code.filter (shows f t) := List.mem_filter.2 ⟨hi, hh⟩
        unfold cnt at h0
        rw [List.eq_nil_of_length_eq_zero h0] at this
        cases this
    obtain ⟨at', h⟩ := lg_none ht hs f.code 0 ⟨[], f.secret⟩ [] rfl (by omega) rfl hno
    unfold legal legalOf
    rw [h]
    dsimp only
    rw [if_neg (by simp), List.nil_append, if_neg (by have := hr.len2; omega), if_neg ?_]
    intro hany
    obtain ⟨i, hi, h2⟩ := List.any_eq_true.1 hany
    obtain ⟨k, hk, rfl⟩ := List.getElem_of_mem hi
    simp only [Bool.and_eq_true] at h2
    have h3 := hno _ hi
    rw [shows_pre (hs k _ (List.getElem?_eq_getElem hk)) ht (s := []) (by simp), h3] at h2
    exact absurd h2.2 (by simp)
  · unfold legal legalOf
    rw [hw.1 hn, if_pos (by decide)]
  · have h1 := hw.2 hn
    have h2 := lg_clean ht hp hs f.code 0 ⟨[], f.secret⟩ [] rfl (by omega) ⟨[], by simp⟩ (fun x hx => by simp at hx) h1.1
    unfold legal legalOf
    generalize lgFrom t f.code ⟨[], f.secret⟩ [] = X at *
    rw [if_neg (by simp [h1.1]), if_neg (by omega), if_neg ?_]
    intro hany
    obtain ⟨i, hi, h3⟩ := List.any_eq_true.1 hany
    simp only [Bool.and_eq_true, decide_eq_true_eq] at h3
    have h4 := (h2 i hi h3.1).2
    unfold mkShows Mk.flat at h3 h4
    have e : shows ⟨X.2.2.code, X.2.2.secret, 0, []⟩ t i = shows ⟨[], X.2.2.secret, 0, []⟩ t i := rfl
    rw [e, h4] at h3
    cases h3.2
end Ev
/- Chapter 9, in plain words: what is known becomes numbers. -/
namespace Ev
/-- an instruction that others lead to -/
def isTo (l : List Instr) (k : Nat) : Bool := l.any fun i => decide (i.op = 18 ∨ i.op = 19) && decide (i.imm = (k : Int))
abbrev Now := Int → Option Int
def noNow : Now := fun _ => none
def nowPut (w : Now) (p : Int) (x : Option Int) : Now := fun q => if q = p then x else w q
def readAll (w : Now) : List Int → Option (List Int)
  | [] => some []
  | p :: r => match w p with
    | none => none
    | some x => (readAll w r).map (x :: ·)
def knownOf (i : Instr) (l : List Int) : Option Int :=
  if i.op ≤ 12 then some (two i.op (l.getD 0 0) (l.getD 1 0))
  else if i.op = 13 then some (sel (l.getD 0 0) (l.getD 1 0) (l.getD 2 0))
  else if i.op = 14 then some i.imm
  else if i.op = 15 then some (l.getD 0 0)
  else none
/-- what an instruction makes, if all that it reads is known -/
def known (i : Instr) (w : Now) : Option Int :=
  match readAll w (reads i) with
  | none => none
  | some l => knownOf i l
def numIn (c : Bool) (w : Now) : Now := if c then noNow else w
def numStep (c : Bool) (i : Instr) (w : Now) : Instr × Now :=
  if makes i = false then (i, numIn c w)
  else match known i (numIn c w) with
    | none => (i, nowPut (numIn c w) i.d none)
    | some n => (⟨14, i.d, 0, 0, 0, n⟩, nowPut (numIn c w) i.d (some n))
def nowAt (l : List Instr) : Nat → Now
  | 0 => noNow
  | k + 1 => (numStep (isTo l k) (l.getD k default) (nowAt l k)).2
def nowIn (l : List Instr) (k : Nat) : Now := numIn (isTo l k) (nowAt l k)
def numAt (l : List Instr) (k : Nat) : Instr := (numStep (isTo l k) (l.getD k default) (nowAt l k)).1
def numTo (l : List Instr) (j : Nat) : List Instr := (List.range j).map (numAt l) ++ l.drop j
def nums (l : List Instr) : List Instr := numTo l l.length
def numbersF (f : Flat) : Flat := { f with code := nums f.code }
theorem numTo_len (l : List Instr) (j : Nat) (h : j ≤ l.length) : (numTo l j).length = l.length := by unfold numTo; simp; omega
theorem numTo_zero (l : List Instr) : numTo l 0 = l := by unfold numTo; simp
theorem numTo_lt (l : List Instr) (j q : Nat) (h : q < j) : (numTo l j)[q]? = some (numAt l q) := by
  unfold numTo
  rw [List.getElem?_append_left (by simp; omega), List.getElem?_map, List.getElem?_range h]
  rfl
theorem numTo_ge (l : List Instr) (j q : Nat) (h : j ≤ q) : (numTo l j)[q]? = l[q]? := by
  unfold numTo
  rw [List.getElem?_append_right (by simp; omega), List.getElem?_drop]
  simp
  congr 1
  omega
theorem numTo_set {l : List Instr} {j : Nat} (h : j < l.length) : (numTo l j).set j (numAt l j) = numTo l (j + 1) := by
  apply List.ext_getElem?
  intro q
  rw [List.getElem?_set]
  by_cases hq : j = q
  · subst hq
    rw [if_pos rfl, numTo_len l j (by omega), if_pos h, numTo_lt l (j + 1) j (by omega)]
  · rw [if_neg hq]
    rcases Nat.lt_or_ge q j with h1 | h1
    · rw [numTo_lt l j q h1, numTo_lt l (j + 1) q (by omega)]
    · rw [numTo_ge l j q h1, numTo_ge l (j + 1) q (by omega)]
theorem numTo_same {l : List Instr} {j : Nat} {i : Instr} (h : l[j]? = some i) (hn : numAt l j = i) : numTo l (j + 1) = numTo l j := by
  have hlt := (List.getElem?_eq_some_iff.1 h).1
  rw [← numTo_set hlt, hn]
  have h2 : (numTo l j)[j]? = some i := by rw [numTo_ge l j j (Nat.le_refl _)]; exact h
  obtain ⟨h3, h4⟩ := List.getElem?_eq_some_iff.1 h2
  rw [← h4]
  exact List.set_getElem_self h3
theorem nums_at {l : List Instr} {k : Nat} (h : k < l.length) : (nums l)[k]? = some (numAt l k) := numTo_lt l _ k h
theorem nums_len (l : List Instr) : (nums l).length = l.length := numTo_len l _ (Nat.le_refl _)
/-- what becomes of an instruction -/
theorem num_cases {l : List Instr} {k : Nat} {i : Instr} (h : l[k]? = some i) :
    (makes i = false ∧ numAt l k = i ∧ nowAt l (k + 1) = nowIn l k) ∨
    (makes i = true ∧ known i (nowIn l k) = none ∧ numAt l k = i ∧ nowAt l (k + 1) = nowPut (nowIn l k) i.d none) ∨
    (makes i = true ∧ ∃ n, known i (nowIn l k) = some n ∧ numAt l k = ⟨14, i.d, 0, 0, 0, n⟩ ∧ nowAt l (k + 1) = nowPut (nowIn l k) i.d (some n)) := by
  have hg : l.getD k default = i := by rw [List.getD_eq_getElem?_getD, h]; rfl
  cases hm : makes i with
  | false =>
    left
    refine ⟨rfl, ?_, ?_⟩
    · unfold numAt numStep; rw [hg, if_pos hm]
    · show (numStep (isTo l k) (l.getD k default) (nowAt l k)).2 = _
      unfold numStep; rw [hg, if_pos hm]; rfl
  | true =>
    right
    have hm' : ¬ makes i = false := by rw [hm]; simp
    cases hk : known i (nowIn l k) with
    | none =>
      left
      refine ⟨rfl, rfl, ?_, ?_⟩
      · unfold numAt numStep; rw [hg, if_neg hm', show known i (numIn (isTo l k) (nowAt l k)) = none from hk]
      · show (numStep (isTo l k) (l.getD k default) (nowAt l k)).2 = _
        unfold numStep; rw [hg, if_neg hm', show known i (numIn (isTo l k) (nowAt l k)) = none from hk]; rfl
    | some n =>
      right
      refine ⟨rfl, n, rfl, ?_, ?_⟩
      · unfold numAt numStep; rw [hg, if_neg hm', show known i (numIn (isTo l k) (nowAt l k)) = some n from hk]
      · show (numStep (isTo l k) (l.getD k default) (nowAt l k)).2 = _
        unfold numStep; rw [hg, if_neg hm', show known i (numIn (isTo l k) (nowAt l k)) = some n from hk]; rfl
theorem makes_iff {i : Instr} : makes i = true ↔ 1 ≤ i.op ∧ i.op ≤ 16 := by unfold makes; simp
theorem makes_no {i : Instr} : makes i = false ↔ ¬ (1 ≤ i.op ∧ i.op ≤ 16) := by rw [← makes_iff]; simp
/-! ### What is made -/
def madeVal (i : Instr) (s : St) : Int :=
  if i.op ≤ 12 then two i.op (val s.v i.a) (val s.v i.b)
  else if i.op = 13 then sel (val s.v i.a) (val s.v i.b) (val s.v i.c)
  else if i.op = 14 then i.imm
  else if i.op = 15 then val s.v i.a
  else arrAt s.arrs i.b (val s.v i.a)
theorem step_makes {i : Instr} {k : Nat} {s : St} (h : makes i = true) : step i k s = ({ s with v := s.v.set i.d.toNat (madeVal i s) }, some (k + 1)) := by
  have h1 := makes_iff.1 h
  unfold madeVal
  by_cases c1 : i.op ≤ 12
  · rw [step_two c1, if_pos c1]
  rw [if_neg c1]
  by_cases c2 : i.op = 13
  · rw [step_sel c2, if_pos c2]
  rw [if_neg c2]
  by_cases c3 : i.op = 14
  · rw [step_const c3, if_pos c3]
  rw [if_neg c3]
  by_cases c4 : i.op = 15
  · rw [step_move c4, if_pos c4]
  rw [if_neg c4, step_load (by omega)]
theorem reads_two {i : Instr} (h : 1 ≤ i.op ∧ i.op ≤ 12) : reads i = [i.a, i.b] := by unfold reads; rw [if_pos h]
theorem reads_sel {i : Instr} (h : i.op = 13) : reads i = [i.a, i.b, i.c] := by unfold reads; rw [if_neg (by omega), if_pos h]
theorem reads_const {i : Instr} (h : i.op = 14) : reads i = [] := by unfold reads; rw [if_neg (by omega), if_neg (by omega), if_neg (by omega), if_neg (by omega)]
theorem reads_store {i : Instr} (h : i.op = 17) : reads i = [i.a, i.d] := by unfold reads; rw [if_neg (by omega), if_neg (by omega), if_pos h]
theorem reads_a {i : Instr} (h : i.op = 15 ∨ i.op = 16 ∨ i.op = 19 ∨ i.op = 20) : reads i = [i.a] := by unfold reads; rw [if_neg (by omega), if_neg (by omega), if_neg (by omega), if_pos h]
theorem reads_none {i : Instr} (h : i.op = 18 ∨ i.op = 21) : reads i = [] := by unfold reads; rw [if_neg (by omega), if_neg (by omega), if_neg (by omega), if_neg (by omega)]
theorem madeVal_same {i : Instr} {s u : St} (h : makes i = true) (ha : s.arrs = u.arrs) (hv : ∀ p ∈ reads i, val s.v p = val u.v p) : madeVal i s = madeVal i u := by
  have h1 := makes_iff.1 h
  unfold madeVal
  by_cases c1 : i.op ≤ 12
  · rw [reads_two (by omega)] at hv
    rw [if_pos c1, if_pos c1, hv i.a (by simp), hv i.b (by simp)]
  rw [if_neg c1, if_neg c1]
  by_cases c2 : i.op = 13
  · rw [reads_sel c2] at hv
    rw [if_pos c2, if_pos c2, hv i.a (by simp), hv i.b (by simp), hv i.c (by simp)]
  rw [if_neg c2, if_neg c2]
  by_cases c3 : i.op = 14
  · rw [if_pos c3, if_pos c3]
  rw [if_neg c3, if_neg c3]
  rw [reads_a (by omega)] at hv
  by_cases c4 : i.op = 15
  · rw [if_pos c4, if_pos c4, hv i.a (by simp)]
  rw [if_neg c4, if_neg c4, hv i.a (by simp), ha]
/-! ### What is known -/
theorem readAll_nil (w : Now) : readAll w [] = some [] := rfl
theorem readAll_cons {w : Now} {p : Int} {r l : List Int} (h : readAll w (p :: r) = some l) : ∃ x l', w p = some x ∧ readAll w r = some l' ∧ l = x :: l' := by
  unfold readAll at h
  cases hp : w p with
  | none => rw [hp] at h; cases h
  | some x =>
    rw [hp] at h
    dsimp only at h
    cases hr : readAll w r with
    | none => rw [hr] at h; cases h
    | some l' => rw [hr] at h; injection h with h; exact ⟨x, l', rfl, rfl, h.symm⟩
structure Knows (n : Nat) (w : Now) (s : St) : Prop where
  at_ : ∀ p x, w p = some x → (0 ≤ p ∧ p < (n : Int)) ∧ val s.v p = x
theorem known_made {i : Instr} {w : Now} {s : St} {n : Nat} {x : Int} (hk : Knows n w s) (hm : makes i = true) (h : known i w = some x) : madeVal i s = x := by
  have h1 := makes_iff.1 hm
  unfold known at h
  cases hr : readAll w (reads i) with
  | none => rw [hr] at h; cases h
  | some l =>
    rw [hr] at h
    dsimp only at h
    unfold knownOf at h
    unfold madeVal
    by_cases c1 : i.op ≤ 12
    · rw [if_pos c1] at h ⊢
      rw [reads_two (by omega)] at hr
      obtain ⟨x1, l1, e1, hr1, rfl⟩ := readAll_cons hr
      obtain ⟨x2, l2, e2, hr2, rfl⟩ := readAll_cons hr1
      rw [(hk.at_ _ _ e1).2, (hk.at_ _ _ e2).2]
      simpa using h
    rw [if_neg c1] at h ⊢
    by_cases c2 : i.op = 13
    · rw [if_pos c2] at h ⊢
      rw [reads_sel c2] at hr
      obtain ⟨x1, l1, e1, hr1, rfl⟩ := readAll_cons hr
      obtain ⟨x2, l2, e2, hr2, rfl⟩ := readAll_cons hr1
      obtain ⟨x3, l3, e3, hr3, rfl⟩ := readAll_cons hr2
      rw [(hk.at_ _ _ e1).2, (hk.at_ _ _ e2).2, (hk.at_ _ _ e3).2]
      simpa using h
    rw [if_neg c2] at h ⊢
    by_cases c3 : i.op = 14
    · rw [if_pos c3] at h ⊢
      simpa using h
    rw [if_neg c3] at h ⊢
    by_cases c4 : i.op = 15
    · rw [if_pos c4] at h ⊢
      rw [reads_a (by omega)] at hr
      obtain ⟨x1, l1, e1, hr1, rfl⟩ := readAll_cons hr
      rw [(hk.at_ _ _ e1).2]
      simpa using h
    rw [if_neg c4] at h
    cases h
theorem known_wd {i : Instr} {w : Now} {f : Flat} {k : Nat} {x : Int} (hs : Sound f k i) (hw : ∀ p x, w p = some x → Wd x) (h : known i w = some x) : Wd x := by
  unfold known at h
  cases hr : readAll w (reads i) with
  | none => rw [hr] at h; cases h
  | some l =>
    rw [hr] at h
    dsimp only at h
    unfold knownOf at h
    by_cases c1 : i.op ≤ 12
    · rw [if_pos c1] at h
      injection h with h
      rw [← h]; exact two_wd _ _ _
    rw [if_neg c1] at h
    by_cases c2 : i.op = 13
    · rw [if_pos c2] at h
      injection h with h
      rw [← h]; exact sel_wd _ _ _
    rw [if_neg c2] at h
    by_cases c3 : i.op = 14
    · rw [if_pos c3] at h
      injection h with h
      rw [← h]; exact hs.imm c3
    rw [if_neg c3] at h
    by_cases c4 : i.op = 15
    · rw [if_pos c4] at h
      rw [reads_a (by omega)] at hr
      obtain ⟨x1, l1, e1, hr1, rfl⟩ := readAll_cons hr
      injection h with h
      rw [← h]
      exact hw _ _ e1
    rw [if_neg c4] at h
    cases h
theorem nowIn_some {l : List Instr} {k : Nat} {p x : Int} (h : nowIn l k p = some x) : nowAt l k p = some x := by
  unfold nowIn numIn at h
  split at h
  · cases h
  · exact h
theorem nowAt_wd {f : Flat} (hr : Right f) : ∀ k, k ≤ f.code.length → ∀ p x, nowAt f.code k p = some x → Wd x
  | 0, _, p, x, h => by cases h
  | k + 1, hk, p, x, h => by
    have hi : f.code[k]? = some f.code[k] := List.getElem?_eq_getElem (by omega)
    have ih : ∀ p x, nowIn f.code k p = some x → Wd x := fun p x h => nowAt_wd hr k (by omega) p x (nowIn_some h)
    rcases num_cases hi with ⟨_, _, e⟩ | ⟨_, _, _, e⟩ | ⟨_, n, e1, _, e⟩
    · rw [e] at h; exact ih p x h
    · rw [e] at h
      unfold nowPut at h
      split at h
      · cases h
      · exact ih p x h
    · rw [e] at h
      unfold nowPut at h
      split at h
      · injection h with h; rw [← h]; exact known_wd (hr.sound hi) ih e1
      · exact ih p x h
/-! ### It is right -/
theorem const_sound {f : Flat} {k : Nat} {d n : Int} (hd : 0 ≤ d ∧ d < (f.secret.length : Int)) (hn : Wd n) : Sound f k ⟨14, d, 0, 0, 0, n⟩ :=
  ⟨⟨by show (1 : Int) ≤ 14; decide, by show (14 : Int) ≤ 21; decide⟩, (by intro p hp; rw [reads_const rfl] at hp; cases hp), fun _ => hd, fun _ => hn, (fun h => h.elim (fun h => absurd h (by show ¬ (14 : Int) = 16; decide)) (fun h => absurd h (by show ¬ (14 : Int) = 17; decide))), (fun h => h.elim (fun h => absurd h (by show ¬ (14 : Int) = 18; decide)) (fun h => absurd h (by show ¬ (14 : Int) = 19; decide))), by unfold secrets; simp [reads_const]⟩
theorem num_sound {f : Flat} (hr : Right f) {k : Nat} (hk : k < f.code.length) : Sound (numbersF f) k (numAt f.code k) := by
  have hi : f.code[k]? = some f.code[k] := List.getElem?_eq_getElem hk
  have hs := hr.sound hi
  have same : Sound (numbersF f) k f.code[k] := ⟨hs.op, hs.reads, hs.makes, hs.imm, hs.arr, by show _ → _ ∧ _ < (((nums f.code).length : Nat) : Int); rw [nums_len]; exact hs.jump, hs.labels⟩
  rcases num_cases hi with ⟨_, e, _⟩ | ⟨_, _, e, _⟩ | ⟨hm, n, e1, e, _⟩
  · rw [e]; exact same
  · rw [e]; exact same
  · rw [e]
    exact const_sound (hs.makes (makes_iff.1 hm).2) (known_wd hs (fun p x h => nowAt_wd hr k (by omega) p x (nowIn_some h)) e1)
theorem numbers_right {f : Flat} (hr : Right f) : Right (numbersF f) := by
  have h1 := hr.len1
  refine ⟨?_, ?_, hr.p0, hr.p1, fun k i hk => ?_, ?_⟩
  · show 1 ≤ (nums f.code).length; rw [nums_len]; exact hr.len1
  · show (nums f.code).length ≤ 12000; rw [nums_len]; exact hr.len2
  · have hlt : k < f.code.length := by have := (List.getElem?_eq_some_iff.1 hk).1; rw [show (numbersF f).code.length = f.code.length from nums_len _] at this; exact this
    have := nums_at hlt
    rw [show (nums f.code)[k]? = some i from hk] at this
    injection this with this
    rw [this]
    exact checkAt_sound (num_sound hr hlt)
  · have hl := hr.last
    have hi : f.code[f.code.length - 1]? = some f.code[f.code.length - 1] := List.getElem?_eq_getElem (by omega)
    have e : lastOp f = f.code[f.code.length - 1].op := by unfold lastOp; rw [List.getD_eq_getElem?_getD, hi]; rfl
    have e2 : lastOp (numbersF f) = lastOp f := by
      have hlen : (numbersF f).code.length = f.code.length := nums_len _
      rw [e]
      unfold lastOp
      rw [hlen, List.getD_eq_getElem?_getD, show (numbersF f).code[f.code.length - 1]? = _ from nums_at (by omega)]
      rcases num_cases hi with ⟨_, e, _⟩ | ⟨_, _, e, _⟩ | ⟨hm, _⟩
      · rw [e]; rfl
      · rw [e]; rfl
      · have := (makes_iff.1 hm).2
        omega
    rw [e2]
    exact hl
/-! ### It ends the same -/
theorem isTo_jump {l : List Instr} {k : Nat} {i : Instr} (h : l[k]? = some i) (ho : i.op = 18 ∨ i.op = 19) (h0 : 0 ≤ i.imm) : isTo l i.imm.toNat = true := by
  unfold isTo
  rw [List.any_eq_true]
  exact ⟨i, List.mem_of_getElem? h, by rw [decide_eq_true ho, decide_eq_true (by omega)]; rfl⟩
theorem nowIn_to {l : List Instr} {k : Nat} (h : isTo l k = true) : nowIn l k = noNow := by unfold nowIn numIn; rw [if_pos h]
theorem Knows.no (n : Nat) (s : St) : Knows n noNow s := ⟨fun p x h => by cases h⟩
theorem Knows.in_ {n : Nat} {l : List Instr} {k : Nat} {s : St} (h : Knows n (nowAt l k) s) : Knows n (nowIn l k) s := ⟨fun p x hp => h.at_ p x (nowIn_some hp)⟩
theorem Knows.put {n : Nat} {w : Now} {s : St} {d y : Int} {o : Option Int} (h : Knows n w s) (hd : 0 ≤ d ∧ d < (n : Int)) (hl : s.v.length = n) (ho : o = none ∨ o = some y) : Knows n (nowPut w d o) { s with v := s.v.set d.toNat y } := by
  refine ⟨fun p x hp => ?_⟩
  unfold nowPut at hp
  by_cases e : p = d
  · rw [if_pos e] at hp
    subst e
    refine ⟨hd, ?_⟩
    rw [val_set hd.1 hd.1 (by omega), if_pos rfl]
    rcases ho with rfl | rfl
    · cases hp
    · injection hp
  · rw [if_neg e] at hp
    have h1 := h.at_ p x hp
    refine ⟨h1.1, ?_⟩
    rw [val_set hd.1 h1.1.1 (by omega), if_neg e]
    exact h1.2
theorem nums_sim {f : Flat} (hr : Right f) (t : List Int) : ∀ (n k : Nat) (s : St), k < f.code.length → Fine f s → Knows f.secret.length (nowIn f.code k) s → (runFrom f.code t n k s).1 = (runFrom (nums f.code) t n k s).1
  | 0, k, s, _, _, _ => by unfold runFrom; rfl
  | n + 1, k, s, hk, hF, hK => by
    have hi : f.code[k]? = some f.code[k] := List.getElem?_eq_getElem hk
    have hn := nums_at hk
    have hs := hr.sound hi
    generalize f.code[k] = i at hi hs
    have hc := num_cases hi
    generalize numAt f.code k = j at hn hc
    have hF' := hF.step hs
    have key : step j k s = step i k s := by
      rcases hc with ⟨_, e, _⟩ | ⟨_, _, e, _⟩ | ⟨hm, x, e1, e, _⟩
      · rw [e]
      · rw [e]
      · rw [e, step_const rfl, step_makes hm, known_made hK hm e1]
    cases hst : step i k s with
    | mk s' o =>
      cases o with
      | none =>
        have hj : j = i := by
          rcases hc with ⟨_, e, _⟩ | ⟨_, _, e, _⟩ | ⟨hm, _⟩
          · exact e
          · exact e
          · rw [step_makes hm] at hst; cases hst
        rw [runFrom_end hi hst, runFrom_end hn (by rw [key]; exact hst), hj]
      | some k' =>
        rw [runFrom_on hi hst, runFrom_on hn (by rw [key]; exact hst)]
        have hon := step_on hr hi (by rw [hst])
        rw [hst] at hF'
        refine nums_sim hr t n k' s' hon.2 hF' ?_
        have hop := hs.op
        rcases hc with ⟨hm, _, e⟩ | ⟨hm, _, _, e⟩ | ⟨hm, x, e1, _, e⟩
        · have hmo := makes_no.1 hm
          rcases (show i.op = 17 ∨ i.op = 18 ∨ i.op = 19 ∨ i.op = 20 ∨ i.op = 21 by omega) with h1 | h1 | h1 | h1
          · have : s'.v = s.v ∧ k' = k + 1 := by
              rw [step_store h1] at hst
              injection hst with h2 h3
              injection h3 with h3
              refine ⟨?_, h3.symm⟩
              rw [← h2]
              split <;> rfl
            obtain ⟨h2, rfl⟩ := this
            refine Knows.in_ ?_
            rw [e]
            exact ⟨fun p x hp => by rw [h2]; exact hK.at_ p x hp⟩
          · have hj := hs.jump (.inl h1)
            rw [step_jump h1] at hst
            injection hst with h2 h3
            injection h3 with h3
            subst h3
            rw [nowIn_to (isTo_jump hi (.inl h1) (by omega))]
            exact Knows.no _ _
          · have hj := hs.jump (.inr h1)
            by_cases h0 : val s.v i.a = 0
            · rw [step_zero_yes h1 h0] at hst
              injection hst with h2 h3
              injection h3 with h3
              subst h3
              rw [nowIn_to (isTo_jump hi (.inr h1) (by omega))]
              exact Knows.no _ _
            · rw [step_zero_no h1 h0] at hst
              injection hst with h2 h3
              injection h3 with h3
              subst h3 h2
              refine Knows.in_ ?_
              rw [e]
              exact hK
          · rw [step_end h1] at hst
            injection hst with h2 h3
            cases h3
        · rw [step_makes hm] at hst
          injection hst with h2 h3
          injection h3 with h3
          subst h3 h2
          refine Knows.in_ ?_
          rw [e]
          exact hK.put (hs.makes (makes_iff.1 hm).2) hF.len (.inl rfl)
        · rw [step_makes hm, known_made hK hm e1] at hst
          injection hst with h2 h3
          injection h3 with h3
          subst h3 h2
          refine Knows.in_ ?_
          rw [e]
          exact hK.put (hs.makes (makes_iff.1 hm).2) hF.len (.inr rfl)
theorem numbers_run {f : Flat} {g : Given} (hr : Right f) (hF : Fine f (start f.secret.length g)) (t : List Int) : (run f t g).1 = (run (numbersF f) t g).1 := by
  have h1 := hr.len1
  unfold run
  show _ = (runFrom (nums f.code) t (nums f.code).length 0 (start f.secret.length g)).1
  rw [nums_len]
  refine nums_sim hr t _ 0 _ (by omega) hF ?_
  have : nowIn f.code 0 = noNow := by
    unfold nowIn numIn
    split <;> rfl
  rw [this]
  exact Knows.no _ _
end Ev
