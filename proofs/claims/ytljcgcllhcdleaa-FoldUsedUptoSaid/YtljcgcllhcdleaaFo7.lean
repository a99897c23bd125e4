import Derived.Test.YtljcgcllhcdleaaFo6
/- Chapter 8, in plain words: what legal.Legal makes of right flat instructions, block by block. -/
namespace Ev
def lgFrom (t : List Int) : List Instr → Mk → List Nat → Int × List Nat × Mk
  | [], m, at_ => (0, at_, m)
  | i :: r, m, at_ =>
    if 17 < i.op ∨ mkShows m t i = false then lgFrom t r (m.put i) (at_ ++ [m.code.length])
    else match mkOther m i with
      | none => (if 12000 < m.code.length then 4 else 11, at_, m)
      | some m' => if 12000 < m'.code.length then (4, at_, m) else lgFrom t r m' (at_ ++ [m.code.length])
def reloc (at_ : List Nat) (i : Instr) : Instr := if i.op = 18 ∨ i.op = 19 then { i with imm := (at_.getD i.imm.toNat 0 : Nat) } else i
def noFlat : Flat := ⟨[], [], 0, []⟩
def legalOf (f : Flat) (t : List Int) (x : Int × List Nat × Mk) : Int × Flat :=
  if x.1 ≠ 0 then (x.1, noFlat)
  else if 12000 < x.2.2.code.length then (4, noFlat)
  else if x.2.2.code.any (fun i => decide (i.op ≤ 17) && mkShows x.2.2 t i) then (11, noFlat)
  else (0, ⟨x.2.2.code.map (reloc x.2.1), x.2.2.secret, f.params, f.arrays⟩)
def legal (f : Flat) (t : List Int) : Int × Flat := legalOf f t (lgFrom t f.code ⟨[], f.secret⟩ [])
/-- what stands for an instruction -/
def Blk (n0 : Nat) (S : List Bool) (i : Instr) (l : List Instr) : Prop :=
  l = [i] ∨ ((6 ≤ i.op ∧ i.op ≤ 13) ∧ sec S i.d = true ∧ ∃ seg out, l = seg ++ [⟨15, i.d, out, 0, 0, 0⟩] ∧ InP S out ∧ (∀ q ∈ seg, GoodI S q ∧ (n0 : Int) ≤ q.d) ∧ ∀ e : Env, (∀ p ∈ reads i, Wd (e p)) → exec seg e out = opVal i e)
theorem Blk.app {n0 : Nat} {S : List Bool} {i : Instr} {l : List Instr} (h : Blk n0 S i l) (s : List Bool) (hd : InP S i.d) : Blk n0 (S ++ s) i l := by
  rcases h with h | ⟨h1, h2, seg, out, h3, h4, h5, h6⟩
  · exact .inl h
  · exact .inr ⟨h1, by rw [sec_app hd]; exact h2, seg, out, h3, h4.app s, fun q hq => ⟨(h5 q hq).1.app s, (h5 q hq).2⟩, h6⟩
theorem nat_of_wd {x : Int} (h : Wd x) : ∃ n : Nat, x = (n : Int) ∧ n < 4294967296 := by have := h.1; have := h.2; exact ⟨x.toNat, by omega, by omega⟩
theorem shows_sec {f : Flat} {t : List Int} {k : Nat} {i : Instr} (ht : wrong t = 0) (hs : Sound f k i) (h : shows f t i = true) (h13 : i.op ≤ 13) : sec f.secret i.d = true := by
  unfold shows at h
  simp only [Bool.and_eq_true, decide_eq_true_eq, Bool.or_eq_true] at h
  obtain ⟨⟨h1, h17⟩, h2⟩ := h
  have hb := table_bits ht h1 h17
  have hm : most i.op = if i.op = 13 then 7 else 3 := by
    unfold most all
    by_cases c : i.op = 13
    · rw [if_neg (by omega), if_neg (by omega), if_pos c, if_pos c]
    · rw [if_neg (by omega), if_pos (by omega), if_neg c]
  have hsm := sub_small (n := seenOf t i.op) (m := most i.op) (by rw [hm]; split <;> simp) hb
  have hl := hs.labels
  unfold secrets at hl
  rw [if_neg (by omega), if_neg (by omega), if_neg (by omega), if_neg (by omega)] at hl
  have hany : (reads i).any (sec f.secret) = true := by
    rw [List.any_eq_true]
    by_cases c13 : i.op = 13
    · have hr : reads i = [i.a, i.b, i.c] := by unfold reads; rw [if_neg (by omega), if_pos c13]
      rw [hr]
      rcases h2 with (⟨_, h⟩ | ⟨_, h⟩) | ⟨_, h⟩
      · exact ⟨i.a, by simp, h⟩
      · rw [if_neg (by omega)] at h; exact ⟨i.b, by simp, h⟩
      · exact ⟨i.c, by simp, h⟩
    · have hr : reads i = [i.a, i.b] := by unfold reads; rw [if_pos (by omega)]
      rw [hr]
      rcases h2 with (⟨_, h⟩ | ⟨_, h⟩) | ⟨hc, h⟩
      · exact ⟨i.a, by simp, h⟩
      · rw [if_neg (by omega)] at h; exact ⟨i.b, by simp, h⟩
      · rw [hm, if_neg c13] at hsm
        have := hsm.2 2 (by decide) hc
        exact absurd this (by decide)
  rw [hany] at hl
  simpa using hl
theorem shows_pre' {f : Flat} {m : Mk} {t : List Int} {i : Instr} (hs : ∀ p ∈ reads i, InP f.secret p) (ht : wrong t = 0) {s : List Bool} (hm : m.secret = f.secret ++ s) : mkShows m t i = shows f t i := by
  by_cases h17 : 1 ≤ i.op ∧ i.op ≤ 17
  · have hb := table_bits ht h17.1 h17.2
    have ha : ∀ p ∈ reads i, sec m.secret p = sec f.secret p := fun p hp => by rw [hm]; exact sec_app (hs p hp)
    have hms : most i.op = 0 ∨ most i.op = 1 ∨ most i.op = 3 ∨ most i.op = 7 := by unfold most all; split <;> (try split) <;> (try split) <;> (try split) <;> (try split) <;> (try split) <;> simp
    have hsm := (sub_small hms hb).2
    unfold mkShows shows Mk.flat
    dsimp only
    rw [decide_eq_true h17, Bool.true_and, Bool.true_and]
    have nb : ∀ k, k < 3 → hasBit (most i.op) k = false → hasBit (seenOf t i.op) k = false := fun k hk h => by
      cases hh : hasBit (seenOf t i.op) k with
      | false => rfl
      | true => rw [hsm k hk hh] at h; cases h
    by_cases c12 : i.op ≤ 12
    · have hr : reads i = [i.a, i.b] := by unfold reads; rw [if_pos (by omega)]
      rw [hr] at ha
      have hmo : most i.op = 3 := by unfold most all; rw [if_neg (by omega), if_pos (by omega)]
      rw [nb 2 (by decide) (by rw [hmo]; decide), if_neg (by omega)]
      rw [ha i.a (by simp), ha i.b (by simp)]
      simp
    by_cases c13 : i.op = 13
    · have hr : reads i = [i.a, i.b, i.c] := by unfold reads; rw [if_neg (by omega), if_pos c13]
      rw [hr] at ha
      rw [if_neg (by omega), ha i.a (by simp), ha i.b (by simp), ha i.c (by simp)]
    by_cases c14 : i.op = 14
    · have hmo : most i.op = 0 := by unfold most all; rw [if_neg (by omega), if_neg (by omega), if_neg (by omega), if_neg (by omega), if_neg (by omega), if_neg (by omega)]
      rw [nb 0 (by decide) (by rw [hmo]; decide), nb 1 (by decide) (by rw [hmo]; decide), nb 2 (by decide) (by rw [hmo]; decide)]
      simp
    by_cases c17 : i.op = 17
    · have hr : reads i = [i.a, i.d] := by unfold reads; rw [if_neg (by omega), if_neg c13, if_pos c17]
      rw [hr] at ha
      have hmo : most i.op = 3 := by unfold most all; rw [if_neg (by omega), if_neg (by omega), if_neg (by omega), if_neg (by omega), if_neg (by omega), if_pos c17]
      rw [nb 2 (by decide) (by rw [hmo]; decide), if_pos c17, ha i.a (by simp), ha i.d (by simp)]
      simp
    · have hr : reads i = [i.a] := by unfold reads; rw [if_neg (by omega), if_neg c13, if_neg c17, if_pos (by omega)]
      rw [hr] at ha
      have hmo : most i.op = 1 := by
        unfold most all
        by_cases c16 : i.op = 16
        · rw [if_pos c16]
        · rw [if_neg c16, if_neg (by omega), if_neg (by omega), if_pos (by omega)]
      rw [nb 1 (by decide) (by rw [hmo]; decide), nb 2 (by decide) (by rw [hmo]; decide), ha i.a (by simp)]
      simp
  · unfold mkShows shows
    rw [decide_eq_false h17]
    simp
theorem shows_pre {f : Flat} {m : Mk} {t : List Int} {k : Nat} {i : Instr} (hs : Sound f k i) (ht : wrong t = 0) {s : List Bool} (hm : m.secret = f.secret ++ s) : mkShows m t i = shows f t i := shows_pre' hs.reads ht hm
/-- the list behind an instruction's block, too -/
def pos (at_ : List Nat) (m : Mk) (j : Nat) : Nat := (at_ ++ [m.code.length]).getD j 0
structure LgInv (f : Flat) (k : Nat) (at_ : List Nat) (m : Mk) : Prop where
  len : at_.length = k
  zero : pos at_ m 0 = 0
  sec : ∃ s, m.secret = f.secret ++ s
  blk : ∀ j i, j < k → f.code[j]? = some i → ∃ l, Blk f.secret.length m.secret i l ∧ l ≠ [] ∧ (∀ q x, l[q]? = some x → m.code[pos at_ m j + q]? = some x) ∧ pos at_ m (j + 1) = pos at_ m j + l.length
  cov : ∀ (p : Nat) x, m.code[p]? = some x → ∃ j i l q, j < k ∧ f.code[j]? = some i ∧ p = pos at_ m j + q ∧ l[q]? = some x ∧ Blk f.secret.length m.secret i l
theorem pos_old {at_ : List Nat} {m m' : Mk} {j : Nat} (h : j ≤ at_.length) : pos (at_ ++ [m.code.length]) m' j = pos at_ m j := by
  unfold pos
  simp only [List.getD_eq_getElem?_getD]
  rw [List.getElem?_append_left (by rw [List.length_append, List.length_singleton]; omega)]
theorem pos_last (at_ : List Nat) (m : Mk) : pos at_ m at_.length = m.code.length := by unfold pos; simp
theorem LgInv.push {f : Flat} {k : Nat} {at_ : List Nat} {m m' : Mk} {i : Instr} {l : List Instr} {s : List Bool} (h : LgInv f k at_ m) (hsd : ∀ (j : Nat) (x : Instr), f.code[j]? = some x → x.op ≤ 13 → InP f.secret x.d) (hi : f.code[k]? = some i) (hl : l ≠ []) (hc : m'.code = m.code ++ l) (hs : m'.secret = m.secret ++ s) (hb : Blk f.secret.length m'.secret i l) : LgInv f (k + 1) (at_ ++ [m.code.length]) m' := by
  have hlk := h.len
  have blk' : ∀ j x y, f.code[j]? = some x → Blk f.secret.length m.secret x y → Blk f.secret.length m'.secret x y := fun j x y hx hy => by
    rcases hy with hy | ⟨h1, h2, h3⟩
    · exact .inl hy
    · obtain ⟨s0, hs0⟩ := h.sec
      rw [hs]
      exact Blk.app (.inr ⟨h1, h2, h3⟩) s (by rw [hs0]; exact (hsd j x hx h1.2).app s0)
  have e2 : pos (at_ ++ [m.code.length]) m' (k + 1) = m'.code.length := by
    have := pos_last (at_ ++ [m.code.length]) m'
    rw [List.length_append, List.length_singleton, hlk] at this
    exact this
  have e1 : pos (at_ ++ [m.code.length]) m' k = m.code.length := by rw [pos_old (by omega), ← hlk, pos_last]
  refine ⟨by simp [hlk], by rw [pos_old (by omega)]; exact h.zero, ?_, fun j x hj hx => ?_, fun p x hp => ?_⟩
  · obtain ⟨s0, hs0⟩ := h.sec
    exact ⟨s0 ++ s, by rw [hs, hs0, List.append_assoc]⟩
  · rcases Nat.lt_or_ge j k with hjk | hjk
    · obtain ⟨y, h1, h2, h3, h4⟩ := h.blk j x hjk hx
      refine ⟨y, blk' j x y hx h1, h2, fun q z hz => ?_, ?_⟩
      · rw [pos_old (by omega), hc]
        have := h3 q z hz
        rw [List.getElem?_append_left (List.getElem?_eq_some_iff.1 this).1]
        exact this
      · rw [pos_old (by omega), pos_old (by omega)]; exact h4
    · obtain rfl : j = k := by omega
      rw [hi] at hx
      injection hx with hx
      subst hx
      refine ⟨l, hb, hl, fun q z hz => ?_, ?_⟩
      · rw [e1, hc, List.getElem?_append_right (by omega)]
        rw [show m.code.length + q - m.code.length = q by omega]
        exact hz
      · rw [e2, e1, hc, List.length_append]
  · rw [hc] at hp
    rcases Nat.lt_or_ge p m.code.length with hpl | hpl
    · rw [List.getElem?_append_left hpl] at hp
      obtain ⟨j, y, b, q, h1, h2, h3, h4, h5⟩ := h.cov p x hp
      exact ⟨j, y, b, q, by omega, h2, by rw [pos_old (by omega)]; exact h3, h4, blk' j y b h2 h5⟩
    · rw [List.getElem?_append_right hpl] at hp
      exact ⟨k, i, l, p - m.code.length, by omega, hi, by rw [e1]; omega, hp, hb⟩
/-- one instruction's block -/
theorem other_blk {f : Flat} {t : List Int} {k : Nat} {i : Instr} {m m' : Mk} (hs : Sound f k i) (ht : wrong t = 0) {s : List Bool} (hm : m.secret = f.secret ++ s) (hsh : mkShows m t i = true) (ho : mkOther m i = some m') :
    ∃ l s', l ≠ [] ∧ m'.code = m.code ++ l ∧ m'.secret = m.secret ++ s' ∧ Blk f.secret.length m'.secret i l := by
  unfold mkOther at ho
  cases hr : mkOut m i with
  | none => rw [hr] at ho; cases ho
  | some r =>
    rw [hr] at ho
    simp only [Option.map_some] at ho
    injection ho with ho
    subst ho
    have hop := out_some hr
    rw [shows_pre hs ht hm] at hsh
    have hsec := shows_sec ht hs hsh (by omega)
    have inp : ∀ p ∈ reads i, InP m.secret p := fun p hp => by rw [hm]; exact InP.app s (hs.reads p hp)
    have hd : InP m.secret i.d := by rw [hm]; exact InP.app s (hs.makes (by omega))
    have ra : i.a ∈ reads i := by unfold reads; split <;> (try split) <;> first | simp | omega
    have rb : i.b ∈ reads i := by unfold reads; split <;> (try split) <;> first | simp | omega
    have rc : i.op = 13 → i.c ∈ reads i := fun h => by unfold reads; rw [if_neg (by omega), if_pos h]; simp
    -- some words, to have the segment
    obtain ⟨e0, hE0, hH0⟩ := out_holds m (fun _ => 0) hr (x := 0) (y := 0) (z := 0) ⟨inp _ ra, rfl, by decide⟩ ⟨inp _ rb, rfl, by decide⟩ (fun h => ⟨inp _ (rc h), rfl, by decide⟩)
    obtain ⟨seg, hc, _, hg⟩ := hE0.seg
    obtain ⟨s', hs'⟩ := hE0.sec
    have hn : f.secret.length ≤ m.secret.length := by rw [hm, List.length_append]; omega
    refine ⟨seg ++ [⟨15, i.d, r.1, 0, 0, 0⟩], s', by simp, by show r.2.code ++ _ = _; rw [hc, List.append_assoc], hs', .inr ⟨hop, ?_, seg, r.1, rfl, hH0.1, fun q hq => ⟨(hg q hq).1, by have := (hg q hq).2; omega⟩, fun e hw => ?_⟩⟩
    · show sec r.2.secret i.d = true
      rw [hs', sec_app hd, hm, sec_app (hs.makes (by omega))]; exact hsec
    · obtain ⟨x, hx1, hx2⟩ := nat_of_wd (hw _ ra)
      obtain ⟨y, hy1, hy2⟩ := nat_of_wd (hw _ rb)
      obtain ⟨z, hz⟩ : ∃ z : Nat, i.op = 13 → e i.c = (z : Int) ∧ z < 4294967296 := by
        by_cases h : i.op = 13
        · obtain ⟨z, h1, h2⟩ := nat_of_wd (hw _ (rc h)); exact ⟨z, fun _ => ⟨h1, h2⟩⟩
        · exact ⟨0, fun h' => absurd h' h⟩
      obtain ⟨e1, hE1, hH1⟩ := out_holds m e hr (x := x) (y := y) (z := z) ⟨inp _ ra, hx1, hx2⟩ ⟨inp _ rb, hy1, hy2⟩ (fun h => ⟨inp _ (rc h), (hz h).1, (hz h).2⟩)
      obtain ⟨seg1, hc1, he1, _⟩ := hE1.seg
      have : seg1 = seg := List.append_cancel_left (hc1.symm.trans hc)
      subst this
      rw [he1, hH1.2.1]
      unfold opVal
      by_cases h : i.op = 13
      · rw [if_pos h, if_neg (show ¬ i.op ≤ 12 by omega)]
        unfold sel
        rw [hx1, hy1, (hz h).1, low_of hx2, low_of hy2, low_of (hz h).2]
        split <;> rfl
      · rw [if_neg h, if_pos (show i.op ≤ 12 by omega)]
        unfold two
        rw [hx1, hy1, low_of hx2, low_of hy2]
theorem lg_inv {f : Flat} {t : List Int} (ht : wrong t = 0) (hs : ∀ (k : Nat) i, f.code[k]? = some i → Sound f k i) : ∀ (r : List Instr) (k : Nat) (m : Mk) (at_ : List Nat), f.code.drop k = r → k + r.length = f.code.length → LgInv f k at_ m → ∀ at' m', lgFrom t r m at_ = (0, at', m') → LgInv f f.code.length at' m'
  | [], k, m, at_, hr, hk, hi, at', m', h => by
    unfold lgFrom at h
    injection h with _ h
    injection h with h1 h2
    subst h1 h2
    obtain rfl : k = f.code.length := by simpa using hk
    exact hi
  | i :: r, k, m, at_, hr, hk, hi, at', m', h => by
    have hkl : k < f.code.length := by rw [List.length_cons] at hk; omega
    have hik : f.code[k]? = some i := by
      have : (f.code.drop k)[0]? = some i := by rw [hr]; rfl
      rw [List.getElem?_drop] at this
      simpa using this
    have hr' : f.code.drop (k + 1) = r := by
      rw [show k + 1 = 1 + k by omega, Nat.add_comm, ← List.drop_drop, hr]; rfl
    have hk' : k + 1 + r.length = f.code.length := by rw [List.length_cons] at hk; omega
    have hsd : ∀ (j : Nat) (x : Instr), f.code[j]? = some x → x.op ≤ 13 → InP f.secret x.d := fun j x hx hop => (hs j x hx).makes (by omega)
    obtain ⟨s, hsm⟩ := hi.sec
    unfold lgFrom at h
    by_cases hc : 17 < i.op ∨ mkShows m t i = false
    · rw [if_pos hc] at h
      exact lg_inv ht hs r (k + 1) _ _ hr' hk' (hi.push (l := [i]) (s := []) hsd hik (by simp) rfl (by simp [Mk.put]) (.inl rfl)) at' m' h
    · rw [if_neg hc] at h
      have hsh : mkShows m t i = true := by
        cases hh : mkShows m t i with
        | true => rfl
        | false => exact absurd (.inr hh) hc
      cases ho : mkOther m i with
      | none =>
        rw [ho] at h
        injection h with h _
        split at h <;> cases h
      | some m2 =>
        rw [ho] at h
        dsimp only at h
        by_cases hl : 12000 < m2.code.length
        · rw [if_pos hl] at h
          injection h with h _
          cases h
        · rw [if_neg hl] at h
          obtain ⟨l, s', h1, h2, h3, h4⟩ := other_blk (hs k i hik) ht hsm hsh ho
          exact lg_inv ht hs r (k + 1) _ _ hr' hk' (hi.push hsd hik h1 h2 h3 h4) at' m' h
theorem lg_start (f : Flat) : LgInv f 0 [] ⟨[], f.secret⟩ :=
  ⟨rfl, rfl, ⟨[], by simp⟩, fun j i h => by omega, fun p x h => by simp at h⟩
/-! ### What is made is right -/
theorem LgInv.mono {f : Flat} {at_ : List Nat} {m : Mk} (h : LgInv f f.code.length at_ m) : ∀ (n j : Nat), j + n ≤ f.code.length → pos at_ m j + n ≤ pos at_ m (j + n)
  | 0, j, _ => Nat.le_refl _
  | n + 1, j, hj => by
    have := h.mono n j (by omega)
    obtain ⟨l, _, h2, _, h4⟩ := h.blk (j + n) f.code[j + n] (by omega) (List.getElem?_eq_getElem (by omega))
    have : 0 < l.length := List.length_pos_iff.2 h2
    rw [show j + (n + 1) = j + n + 1 by omega, h4]
    omega
theorem LgInv.end_ {f : Flat} {at_ : List Nat} {m : Mk} (h : LgInv f f.code.length at_ m) : pos at_ m f.code.length = m.code.length := by rw [← h.len]; exact pos_last _ _
theorem LgInv.at_ {f : Flat} {l : List Nat} {m : Mk} (h : LgInv f f.code.length l m) {j : Nat} (hj : j < f.code.length) : l.getD j 0 = pos l m j := by
  unfold pos
  rw [List.getD_eq_getElem?_getD, List.getD_eq_getElem?_getD, List.getElem?_append_left (by rw [h.len]; exact hj)]
/-- a straight instruction of a segment is right -/
theorem good_sound {S : List Bool} {i : Instr} (h : GoodI S i) {x : Flat} (hx : x.secret = S) (p : Nat) : Sound x p i := by
  rcases h.op with ⟨h1, h2⟩ | ⟨h1, h2, h3, h4, _⟩
  · have hr : reads i = [] := by unfold reads; rw [if_neg (by omega), if_neg (by omega), if_neg (by omega), if_neg (by omega)]
    refine ⟨by omega, by rw [hr]; simp, fun _ => by rw [hx]; exact h.d, fun _ => h2, fun h => by omega, fun h => by omega, ?_⟩
    unfold secrets
    rw [if_neg (by omega), if_neg (by omega), if_neg (by omega), if_neg (by omega), hr]; rfl
  · have hr : reads i = [i.a, i.b] := by unfold reads; rw [if_pos (by omega)]
    refine ⟨by omega, ?_, fun _ => by rw [hx]; exact h.d, fun h => by omega, fun h => by omega, fun h => by omega, ?_⟩
    · rw [hr, hx]; intro p hp; simp at hp; rcases hp with rfl | rfl
      · exact h2
      · exact h3
    · unfold secrets
      rw [if_neg (by omega), if_neg (by omega), if_neg (by omega), if_neg (by omega), hr, hx]
      simp only [List.any_cons, List.any_nil, h4]
      cases Ev.sec S i.a <;> cases Ev.sec S i.b <;> rfl
theorem checkAt_sound {f : Flat} {k : Nat} {i : Instr} (h : Sound f k i) : checkAt f k i = 0 := by
  unfold checkAt
  rw [if_neg (by have := h.op; omega)]
  have hn : numbers f k i = true := by
    unfold numbers
    rw [Bool.and_eq_true, Bool.and_eq_true, List.all_eq_true]
    refine ⟨⟨fun p hp => by have := h.reads p hp; simp [isPlace, this], ?_⟩, ?_⟩
    · cases hm : Ev.makes i with
      | false => rfl
      | true =>
        unfold Ev.makes at hm
        simp at hm
        have := h.makes hm.2
        simp [isPlace, this]
    · split
      · have := h.imm ‹_›; simp [isWord, this]
      split
      · have := h.arr ‹_›; simp [this]
      split
      · have := h.jump ‹_›; simp [this]
      · rfl
  rw [hn, if_neg (by simp), h.labels]
  simp
end Ev
/- Chapter 8, in plain words: what is made is right, and ends the same. -/
namespace Ev
theorem reloc_not {at_ : List Nat} {i : Instr} (h : ¬ (i.op = 18 ∨ i.op = 19)) : reloc at_ i = i := by unfold reloc; rw [if_neg h]
theorem reloc_op (at_ : List Nat) (i : Instr) : (reloc at_ i).op = i.op ∧ (reloc at_ i).a = i.a ∧ (reloc at_ i).d = i.d ∧ (reloc at_ i).b = i.b ∧ (reloc at_ i).c = i.c := by unfold reloc; split <;> exact ⟨rfl, rfl, rfl, rfl, rfl⟩
theorem reads_reloc (at_ : List Nat) (i : Instr) : reads (reloc at_ i) = reads i := by
  obtain ⟨h1, h2, h3, h4, h5⟩ := reloc_op at_ i
  unfold reads
  rw [h1, h2, h3, h4, h5]
/-- what came of it -/
def made (f : Flat) (at_ : List Nat) (m : Mk) : Flat := ⟨m.code.map (reloc at_), m.secret, f.params, f.arrays⟩
theorem sound_same {f x : Flat} {k p : Nat} {i j : Instr} {s : List Bool} (h : Sound f k i) (hx : x.secret = f.secret ++ s) (ha : x.arrays = f.arrays) (ho : j.op = i.op ∧ j.a = i.a ∧ j.d = i.d ∧ j.b = i.b ∧ j.c = i.c) (hi : j.imm = i.imm ∨ ((i.op = 18 ∨ i.op = 19) ∧ (p : Int) < j.imm ∧ j.imm < x.code.length)) (hn : i.op = 18 ∨ i.op = 19 → (p : Int) < j.imm ∧ j.imm < x.code.length) : Sound x p j := by
  obtain ⟨h1, h2, h3, h4, h5⟩ := ho
  have hr : reads j = reads i := by unfold reads; rw [h1, h2, h3, h4, h5]
  have inp : ∀ p, InP f.secret p → InP x.secret p := fun p hp => by rw [hx]; exact hp.app s
  refine ⟨by rw [h1]; exact h.op, by rw [hr]; exact fun p hp => inp p (h.reads p hp), by rw [h1, h3]; exact fun hop => inp _ (h.makes hop), fun h14 => ?_, by rw [h1, h4, ha]; exact h.arr, by rw [h1]; exact hn, ?_⟩
  · rw [h1] at h14
    rcases hi with hi | ⟨h, _⟩
    · rw [hi]; exact h.imm h14
    · omega
  · have hl := h.labels
    unfold secrets at hl ⊢
    rw [h1, h2, h3, h4, hr, ha]
    have sa : ∀ p, InP f.secret p → sec x.secret p = sec f.secret p := fun p hp => by rw [hx]; exact sec_app hp
    have ra : i.op ≠ 14 → i.op ≠ 18 → i.op ≠ 21 → i.a ∈ reads i := fun a b c => by
      have := h.op
      unfold reads
      by_cases d1 : 1 ≤ i.op ∧ i.op ≤ 12
      · rw [if_pos d1]; simp
      by_cases d2 : i.op = 13
      · rw [if_neg d1, if_pos d2]; simp
      by_cases d3 : i.op = 17
      · rw [if_neg d1, if_neg d2, if_pos d3]; simp
      · rw [if_neg d1, if_neg d2, if_neg d3, if_pos (by omega)]; simp
    have any : (reads i).any (sec x.secret) = (reads i).any (sec f.secret) := by
      rw [Bool.eq_iff_iff, List.any_eq_true, List.any_eq_true]
      exact ⟨fun ⟨p, hp, hq⟩ => ⟨p, hp, by rw [← sa p (h.reads p hp)]; exact hq⟩, fun ⟨p, hp, hq⟩ => ⟨p, hp, by rw [sa p (h.reads p hp)]; exact hq⟩⟩
    by_cases c16 : i.op = 16
    · rw [if_pos c16] at hl ⊢
      rw [sa _ (h.reads _ (ra (by omega) (by omega) (by omega))), sa _ (h.makes (by omega))]; exact hl
    rw [if_neg c16] at hl ⊢
    by_cases c17 : i.op = 17
    · rw [if_pos c17] at hl ⊢
      have rd : i.d ∈ reads i := by unfold reads; rw [if_neg (by omega), if_neg (by omega), if_pos c17]; simp
      rw [sa _ (h.reads _ (ra (by omega) (by omega) (by omega))), sa _ (h.reads _ rd)]; exact hl
    rw [if_neg c17] at hl ⊢
    by_cases c19 : i.op = 19
    · rw [if_pos c19] at hl ⊢
      rw [sa _ (h.reads _ (ra (by omega) (by omega) (by omega)))]; exact hl
    rw [if_neg c19] at hl ⊢
    by_cases c20 : i.op = 20
    · rw [if_pos c20]
    rw [if_neg c20] at hl ⊢
    rw [any]
    by_cases hm : i.op ≤ 16
    · rw [sa _ (h.makes hm)]; exact hl
    · have hr0 : reads i = [] := by have := h.op; unfold reads; rw [if_neg (by omega), if_neg (by omega), if_neg (by omega), if_neg (by omega)]
      rw [hr0]; rfl
theorem made_at {f : Flat} {at_ : List Nat} {m : Mk} (h : LgInv f f.code.length at_ m) (hr : Right f) {p : Nat} {x : Instr} (hp : m.code[p]? = some x) : Sound (made f at_ m) p (reloc at_ x) := by
  obtain ⟨j, i, l, q, hj, hi, rfl, hq, hb⟩ := h.cov p x hp
  have hs := hr.sound hi
  obtain ⟨s, hsm⟩ := h.sec
  have hlen : (made f at_ m).code.length = m.code.length := by simp [made]
  obtain ⟨l', hb1, hb2, hb3, hb4⟩ := h.blk j i hj hi
  rcases hb with rfl | ⟨hop, hsec, seg, out, rfl, hout, hg, _⟩
  · have hq0 : q = 0 := by
      rcases Nat.eq_zero_or_pos q with h0 | h0
      · exact h0
      · rw [List.getElem?_eq_none (by simp; omega)] at hq; cases hq
    subst hq0
    simp at hq
    subst hq
    have hjmp : i.op = 18 ∨ i.op = 19 → ((pos at_ m j + 0 : Nat) : Int) < (reloc at_ i).imm ∧ (reloc at_ i).imm < (made f at_ m).code.length := fun hop => by
      have hjm := hs.jump hop
      unfold reloc
      rw [if_pos hop]
      dsimp only
      have e : i.imm.toNat < f.code.length := by omega
      rw [h.at_ e, hlen]
      have m1 := h.mono (i.imm.toNat - j) j (by omega)
      rw [show j + (i.imm.toNat - j) = i.imm.toNat by omega] at m1
      have m2 := h.mono (f.code.length - i.imm.toNat) i.imm.toNat (by omega)
      rw [show i.imm.toNat + (f.code.length - i.imm.toNat) = f.code.length by omega, h.end_] at m2
      omega
    refine sound_same (s := s) hs hsm rfl (reloc_op at_ i) ?_ hjmp
    by_cases hop : i.op = 18 ∨ i.op = 19
    · exact .inr ⟨hop, hjmp hop⟩
    · rw [reloc_not hop]; exact .inl rfl
  · rcases Nat.lt_or_ge q seg.length with hql | hql
    · rw [List.getElem?_append_left hql] at hq
      have := (hg x (List.mem_of_getElem? hq)).1
      have hxo : ¬ (x.op = 18 ∨ x.op = 19) := by rcases this.op with ⟨h1, _⟩ | ⟨h1, _⟩ <;> omega
      rw [reloc_not hxo]
      exact good_sound this rfl _
    · rw [List.getElem?_append_right hql] at hq
      have hq0 : q - seg.length = 0 := by
        rcases Nat.eq_zero_or_pos (q - seg.length) with h0 | h0
        · exact h0
        · rw [List.getElem?_eq_none (by simp; omega)] at hq; cases hq
      rw [hq0] at hq
      simp at hq
      subst hq
      rw [reloc_not (by show ¬ ((15 : Int) = 18 ∨ (15 : Int) = 19); decide)]
      have hr1 : reads (⟨15, i.d, out, 0, 0, 0⟩ : Instr) = [out] := rfl
      refine ⟨⟨by show (1 : Int) ≤ 15; decide, by show (15 : Int) ≤ 21; decide⟩, ?_, fun _ => ?_, fun h => absurd h (by show ¬ (15 : Int) = 14; decide), fun h => absurd h (by show ¬ ((15 : Int) = 16 ∨ (15 : Int) = 17); decide), fun h => absurd h (by show ¬ ((15 : Int) = 18 ∨ (15 : Int) = 19); decide), ?_⟩
      · rw [hr1]; intro p hp; simp at hp; subst hp; exact hout
      · show InP m.secret i.d
        rw [hsm]; exact InP.app s (hs.makes (by omega))
      · show ((reads (⟨15, i.d, out, 0, 0, 0⟩ : Instr)).any (sec m.secret) && !sec m.secret i.d) = false
        rw [hsec]; simp
theorem made_right {f : Flat} {at_ : List Nat} {m : Mk} (h : LgInv f f.code.length at_ m) (hr : Right f) (hl : m.code.length ≤ 12000) : Right (made f at_ m) := by
  have hlen : (made f at_ m).code.length = m.code.length := by simp [made]
  have m0 := h.mono f.code.length 0 (by omega)
  rw [h.zero, Nat.zero_add, h.end_] at m0
  have h1 := hr.len1
  obtain ⟨s, hsm⟩ := h.sec
  refine ⟨by rw [hlen]; omega, by rw [hlen]; exact hl, hr.p0, ?_, fun k i hk => ?_, ?_⟩
  · show f.params ≤ (m.secret.length : Int)
    rw [hsm, List.length_append]
    have := hr.p1
    omega
  · unfold made at hk
    rw [List.getElem?_map] at hk
    cases hx : m.code[k]? with
    | none => rw [hx] at hk; cases hk
    | some x =>
      rw [hx] at hk
      simp only [Option.map_some] at hk
      injection hk with hk
      subst hk
      exact checkAt_sound (made_at h hr hx)
  · -- the last one
    obtain ⟨i, hi⟩ : ∃ i, f.code[f.code.length - 1]? = some i := ⟨f.code[f.code.length - 1], List.getElem?_eq_getElem (by omega)⟩
    have hlast : lastOp f = i.op := by unfold lastOp; rw [List.getD_eq_getElem?_getD, hi]; rfl
    obtain ⟨l, hb1, hb2, hb3, hb4⟩ := h.blk _ i (by omega) hi
    rw [show f.code.length - 1 + 1 = f.code.length by omega, h.end_] at hb4
    have hop := hr.last
    rw [hlast] at hop
    rcases hb1 with rfl | ⟨h6, _⟩
    · have hq := hb3 0 i rfl
      rw [List.length_singleton] at hb4
      have e : lastOp (made f at_ m) = i.op := by
        unfold lastOp
        rw [hlen, List.getD_eq_getElem?_getD]
        unfold made
        rw [List.getElem?_map, show m.code.length - 1 = pos at_ m (f.code.length - 1) + 0 by omega, hq]
        simp only [Option.map_some, Option.getD_some]
        exact (reloc_op at_ i).1
      rw [e]; exact hop
    · omega
/-! ### It ends the same -/
def execL (l : List Instr) (v : List Int) : List Int := l.foldl (fun v i => v.set i.d.toNat (if i.op = 14 then i.imm else two i.op (val v i.a) (val v i.b))) v
theorem val_set {v : List Int} {d p x : Int} (hd : 0 ≤ d) (hp : 0 ≤ p) (hl : d < v.length) : val (v.set d.toNat x) p = if p = d then x else val v p := by
  unfold val
  rw [getD_set_nat]
  by_cases h : p = d
  · subst h; rw [if_pos ⟨rfl, by omega⟩, if_pos rfl]
  · rw [if_neg (by omega), if_neg h]
theorem execL_env (S : List Bool) : ∀ (l : List Instr) (v : List Int) (e : Env), (∀ q ∈ l, GoodI S q) → S.length ≤ v.length → (∀ p, 0 ≤ p → e p = val v p) → (execL l v).length = v.length ∧ ∀ p, 0 ≤ p → exec l e p = val (execL l v) p
  | [], v, e, _, _, he => ⟨rfl, he⟩
  | i :: r, v, e, hg, hl, he => by
    have hi := hg i List.mem_cons_self
    have hd := hi.d
    have := execL_env S r (v.set i.d.toNat (if i.op = 14 then i.imm else two i.op (val v i.a) (val v i.b))) (exec1 e i) (fun q hq => hg q (List.mem_cons_of_mem _ hq)) (by rw [List.length_set]; exact hl) (fun p hp => by
      rw [val_set hd.1 hp (by have := hd.2; omega)]
      unfold exec1 upd
      rcases hi.op with ⟨h1, _⟩ | ⟨h1, h2, h3, _⟩
      · rw [if_pos h1, if_pos h1]; split
        · rfl
        · exact he p hp
      · rw [if_neg (show ¬ i.op = 14 by omega), if_neg (show ¬ i.op = 14 by omega), he _ h2.1, he _ h3.1]; split
        · rfl
        · exact he p hp)
    rw [List.length_set] at this
    exact this
theorem step_le12 {i : Instr} {k : Nat} {s : St} (h : i.op ≤ 12) : step i k s = ({ s with v := s.v.set i.d.toNat (two i.op (val s.v i.a) (val s.v i.b)) }, some (k + 1)) := by unfold step; rw [if_pos h]
theorem step_is14 {i : Instr} {k : Nat} {s : St} (h : i.op = 14) : step i k s = ({ s with v := s.v.set i.d.toNat i.imm }, some (k + 1)) := by unfold step; rw [if_neg (by omega), if_neg (by omega), if_pos h]
theorem run_seg (c : List Instr) (t : List Int) (S : List Bool) : ∀ (l : List Instr) (n p : Nat) (s : St), (∀ q ∈ l, GoodI S q) → (∀ (q : Nat) x, l[q]? = some x → c[p + q]? = some x) → (runFrom c t (l.length + n) p s).1 = (runFrom c t n (p + l.length) { s with v := execL l s.v }).1
  | [], n, p, s, _, _ => by simp [execL]
  | i :: r, n, p, s, hg, hc => by
    have hi := hg i List.mem_cons_self
    have hci : c.getD p default = i := by rw [List.getD_eq_getElem?_getD]; have := hc 0 i rfl; rw [Nat.add_zero] at this; rw [this]; rfl
    have hst : step i p s = ({ s with v := s.v.set i.d.toNat (if i.op = 14 then i.imm else two i.op (val s.v i.a) (val s.v i.b)) }, some (p + 1)) := by
      rcases hi.op with ⟨h1, _⟩ | ⟨h1, _⟩
      · rw [step_is14 h1, if_pos h1]
      · rw [step_le12 (by omega), if_neg (by omega)]
    have ih := run_seg c t S r n (p + 1) { s with v := s.v.set i.d.toNat (if i.op = 14 then i.imm else two i.op (val s.v i.a) (val s.v i.b)) } (fun q hq => hg q (List.mem_cons_of_mem _ hq)) (fun q x hq => by
      have := hc (q + 1) x (by simpa using hq)
      rw [show p + 1 + q = p + (q + 1) by omega]; exact this)
    rw [List.length_cons, show r.length + 1 + n = (r.length + n) + 1 by omega]
    conv => lhs; unfold runFrom
    simp only [hci, hst]
    rw [ih, show p + 1 + r.length = p + (r.length + 1) by omega]
    rfl
/-- two states that are the same where the old places are -/
structure Twin (n0 n1 : Nat) (s u : St) : Prop where
  len : n1 ≤ u.v.length
  low : ∀ p, 0 ≤ p → p < (n0 : Int) → val u.v p = val s.v p
  arrs : u.arrs = s.arrs
theorem Twin.set {n0 n1 : Nat} {s u : St} (h : Twin n0 n1 s u) (hn : n0 ≤ n1) (hs : s.v.length = n0) {d : Int} (hd : 0 ≤ d ∧ d < (n0 : Int)) (x : Int) : Twin n0 n1 { s with v := s.v.set d.toNat x } { u with v := u.v.set d.toNat x } := by
  have hl := h.len
  refine ⟨by rw [List.length_set]; exact h.len, fun p h1 h2 => ?_, h.arrs⟩
  show val (u.v.set d.toNat x) p = val (s.v.set d.toNat x) p
  rw [val_set hd.1 h1 (by omega), val_set hd.1 h1 (by omega), h.low p h1 h2]
theorem step_one {f : Flat} {k p : Nat} {i : Instr} {s u : St} {n1 : Nat} (hs : Sound f k i) (hF : Fine f s) (hn : f.secret.length ≤ n1) (h : Twin f.secret.length n1 s u) (h16 : i.op ≤ 17) :
    (step i k s).2 = some (k + 1) ∧ (step i p u).2 = some (p + 1) ∧ Twin f.secret.length n1 (step i k s).1 (step i p u).1 := by
  have rd : ∀ q ∈ reads i, val u.v q = val s.v q := fun q hq => h.low q (hs.reads q hq).1 (hs.reads q hq).2
  have h1 := hs.op.1
  by_cases c12 : i.op ≤ 12
  · have hr : reads i = [i.a, i.b] := by unfold reads; rw [if_pos (by omega)]
    rw [hr] at rd
    rw [step_le12 c12, step_le12 c12, rd i.a (by simp), rd i.b (by simp)]
    exact ⟨rfl, rfl, h.set hn hF.len (hs.makes (by omega)) _⟩
  by_cases c13 : i.op = 13
  · have hr : reads i = [i.a, i.b, i.c] := by unfold reads; rw [if_neg (by omega), if_pos c13]
    rw [hr] at rd
    have e : ∀ k (s : St), step i k s = ({ s with v := s.v.set i.d.toNat (sel (val s.v i.a) (val s.v i.b) (val s.v i.c)) }, some (k + 1)) := fun k s => by unfold step; rw [if_neg c12, if_pos c13]
    rw [e, e, rd i.a (by simp), rd i.b (by simp), rd i.c (by simp)]
    exact ⟨rfl, rfl, h.set hn hF.len (hs.makes (by omega)) _⟩
  by_cases c14 : i.op = 14
  · rw [step_is14 c14, step_is14 c14]
    exact ⟨rfl, rfl, h.set hn hF.len (hs.makes (by omega)) _⟩
  have ra : i.a ∈ reads i := by
    unfold reads
    by_cases d3 : i.op = 17
    · rw [if_neg (by omega), if_neg c13, if_pos d3]; simp
    · rw [if_neg (by omega), if_neg c13, if_neg d3, if_pos (by omega)]; simp
  have ea := rd i.a ra
  by_cases c15 : i.op = 15
  · have e : ∀ k (s : St), step i k s = ({ s with v := s.v.set i.d.toNat (val s.v i.a) }, some (k + 1)) := fun k s => by unfold step; rw [if_neg c12, if_neg c13, if_neg c14, if_pos c15]
    rw [e, e, ea]
    exact ⟨rfl, rfl, h.set hn hF.len (hs.makes (by omega)) _⟩
  by_cases c16 : i.op = 16
  · have e : ∀ k (s : St), step i k s = ({ s with v := s.v.set i.d.toNat (arrAt s.arrs i.b (val s.v i.a)) }, some (k + 1)) := fun k s => by unfold step; rw [if_neg c12, if_neg c13, if_neg c14, if_neg c15, if_pos c16]
    have hA : arrAt u.arrs i.b (val s.v i.a) = arrAt s.arrs i.b (val s.v i.a) := by rw [h.arrs]
    rw [e, e, ea, hA]
    exact ⟨rfl, rfl, h.set hn hF.len (hs.makes (by omega)) _⟩
  · have c17 : i.op = 17 := by omega
    have rdd : i.d ∈ reads i := by unfold reads; rw [if_neg (by omega), if_neg c13, if_pos c17]; simp
    rw [step_store c17, step_store c17, ea, rd i.d rdd, h.arrs]
    refine ⟨rfl, rfl, ?_⟩
    split
    · exact ⟨h.len, h.low, rfl⟩
    · exact ⟨h.len, h.low, h.arrs⟩
theorem exec_old : ∀ (l : List Instr) (e : Env) (n : Nat), (∀ q ∈ l, (n : Int) ≤ q.d) → ∀ p, p < (n : Int) → exec l e p = e p
  | [], e, n, _, p, _ => rfl
  | i :: r, e, n, h, p, hp => by
    have := exec_old r (exec1 e i) n (fun q hq => h q (List.mem_cons_of_mem _ hq)) p hp
    show exec r (exec1 e i) p = e p
    rw [this]
    unfold exec1 upd
    rw [if_neg (by have := h i List.mem_cons_self; omega)]
theorem sim {f : Flat} {at_ : List Nat} {m : Mk} (h : LgInv f f.code.length at_ m) (hr : Right f) (t : List Int) : ∀ (n k : Nat) (n' : Nat) (s u : St), f.code.length ≤ n + k → k < f.code.length → m.code.length ≤ n' + pos at_ m k → Fine f s → Twin f.secret.length m.secret.length s u →
    (runFrom f.code t n k s).1 = (runFrom (made f at_ m).code t n' (pos at_ m k) u).1
  | 0, k, n', s, u, hn, hk, _, _, _ => by omega
  | n + 1, k, n', s, u, hn, hk, hn', hF, hT => by
    obtain ⟨i, hi⟩ : ∃ i, f.code[k]? = some i := ⟨f.code[k], List.getElem?_eq_getElem hk⟩
    have hs := hr.sound hi
    have hci : f.code.getD k default = i := by rw [List.getD_eq_getElem?_getD, hi]; rfl
    obtain ⟨sx, hsm⟩ := h.sec
    have hnn : f.secret.length ≤ m.secret.length := by rw [hsm, List.length_append]; omega
    obtain ⟨l, hb1, hb2, hb3, hb4⟩ := h.blk k i hk hi
    have hend : pos at_ m (k + 1) ≤ m.code.length := by
      have m2 := h.mono (f.code.length - (k + 1)) (k + 1) (by omega)
      rw [show k + 1 + (f.code.length - (k + 1)) = f.code.length by omega, h.end_] at m2
      omega
    rcases hb1 with rfl | ⟨hop, hsec, seg, out, rfl, hout, hg, hv⟩
    · rw [List.length_singleton] at hb4
      have hq := hb3 0 i rfl
      rw [Nat.add_zero] at hq
      have hcx : (made f at_ m).code.getD (pos at_ m k) default = reloc at_ i := by
        unfold made
        rw [List.getD_eq_getElem?_getD, List.getElem?_map, hq]; rfl
      obtain ⟨n2, rfl⟩ : ∃ n2, n' = n2 + 1 := ⟨n' - 1, by omega⟩
      unfold runFrom
      simp only [hci, hcx]
      by_cases h17 : i.op ≤ 17
      · rw [reloc_not (by omega)]
        obtain ⟨e1, e2, hT'⟩ := step_one (p := pos at_ m k) hs hF hnn hT h17
        have hF' := hF.step hs
        have hon := step_on hr hi e1
        generalize hx : step i k s = X at *
        generalize hy : step i (pos at_ m k) u = Y at *
        obtain ⟨X1, X2⟩ := X
        obtain ⟨Y1, Y2⟩ := Y
        simp only at e1 e2 hT' hF'
        subst e1 e2
        dsimp only
        have := sim h hr t n (k + 1) n2 X1 Y1 (by omega) hon.2 (by omega) hF' hT'
        rw [hb4] at this
        exact this
      · have hop := hs.op
        have hva : i.op = 19 ∨ i.op = 20 → val u.v i.a = val s.v i.a := fun hc => by
          have : i.a ∈ reads i := by unfold reads; rw [if_neg (by omega), if_neg (by omega), if_neg (by omega), if_pos (by omega)]; simp
          exact hT.low _ (hs.reads _ this).1 (hs.reads _ this).2
        have go : ∀ k', k < k' → k' < f.code.length → (runFrom f.code t n k' s).1 = (runFrom (made f at_ m).code t n2 (pos at_ m k') u).1 := fun k' h1 h2 => by
          have m1 := h.mono (k' - k) k (by omega)
          rw [show k + (k' - k) = k' by omega] at m1
          exact sim h hr t n k' n2 s u (by omega) h2 (by omega) hF hT
        by_cases c18 : i.op = 18
        · have hj := hs.jump (.inl c18)
          have e1 : step i k s = (s, some i.imm.toNat) := by unfold step; rw [if_neg (by omega), if_neg (by omega), if_neg (by omega), if_neg (by omega), if_neg (by omega), if_neg (by omega), if_pos c18]
          have e2 : step (reloc at_ i) (pos at_ m k) u = (u, some (pos at_ m i.imm.toNat)) := by
            have e0 := h.at_ (j := i.imm.toNat) (by omega)
            unfold reloc
            rw [if_pos (.inl c18)]
            unfold step
            dsimp only
            rw [if_neg (by omega), if_neg (by omega), if_neg (by omega), if_neg (by omega), if_neg (by omega), if_neg (by omega), if_pos c18, e0]
            simp
          rw [e1, e2]
          exact go _ (by omega) (by omega)
        by_cases c19 : i.op = 19
        · have hj := hs.jump (.inr c19)
          have e1 : step i k s = (s, some (if val s.v i.a = 0 then i.imm.toNat else k + 1)) := by unfold step; rw [if_neg (by omega), if_neg (by omega), if_neg (by omega), if_neg (by omega), if_neg (by omega), if_neg (by omega), if_neg c18, if_pos c19]
          have e2 : step (reloc at_ i) (pos at_ m k) u = (u, some (if val u.v i.a = 0 then pos at_ m i.imm.toNat else pos at_ m k + 1)) := by
            have e0 := h.at_ (j := i.imm.toNat) (by omega)
            unfold reloc
            rw [if_pos (.inr c19)]
            unfold step
            dsimp only
            rw [if_neg (by omega), if_neg (by omega), if_neg (by omega), if_neg (by omega), if_neg (by omega), if_neg (by omega), if_neg c18, if_pos c19, e0]
            simp
          have hon := step_on hr hi (k' := if val s.v i.a = 0 then i.imm.toNat else k + 1) (by rw [e1])
          rw [e1, e2, hva (.inl c19)]
          dsimp only
          by_cases h0 : val s.v i.a = 0
          · rw [if_pos h0, if_pos h0]
            exact go _ (by omega) (by omega)
          · rw [if_neg h0] at hon
            rw [if_neg h0, if_neg h0, ← hb4]
            exact go _ (by omega) hon.2
        · rw [reloc_not (by omega)]
          have e : ∀ k (s : St), step i k s = (s, none) := fun k s => by unfold step; rw [if_neg (by omega), if_neg (by omega), if_neg (by omega), if_neg (by omega), if_neg (by omega), if_neg (by omega), if_neg c18, if_neg c19, if_pos (by omega)]
          rw [e, e]
          dsimp only
          unfold endOf
          rw [hT.arrs]
          by_cases c21 : i.op = 21
          · rw [if_pos c21, if_pos c21]
          · rw [if_neg c21, if_neg c21, hva (.inr (by omega))]
    · have hll : (seg ++ [(⟨15, i.d, out, 0, 0, 0⟩ : Instr)]).length = seg.length + 1 := by simp
      rw [hll] at hb4
      obtain ⟨n2, rfl⟩ : ∃ n2, n' = seg.length + (n2 + 1) := ⟨n' - seg.length - 1, by omega⟩
      have hgs : ∀ q ∈ seg, GoodI m.secret q := fun q hq => (hg q hq).1
      have hcode : ∀ (q : Nat) x, seg[q]? = some x → (made f at_ m).code[pos at_ m k + q]? = some x := fun q x hq => by
        have hql : q < seg.length := (List.getElem?_eq_some_iff.1 hq).1
        have := hb3 q x (by rw [List.getElem?_append_left hql]; exact hq)
        unfold made
        rw [List.getElem?_map, this]
        have hx := hgs x (List.mem_of_getElem? hq)
        have hxo : ¬ (x.op = 18 ∨ x.op = 19) := by rcases hx.op with ⟨h1, _⟩ | ⟨h1, _⟩ <;> omega
        simp only [Option.map_some, reloc_not hxo]
      rw [run_seg _ t m.secret seg (n2 + 1) _ u hgs hcode]
      have hlast : (made f at_ m).code.getD (pos at_ m k + seg.length) default = (⟨15, i.d, out, 0, 0, 0⟩ : Instr) := by
        have := hb3 seg.length ⟨15, i.d, out, 0, 0, 0⟩ (by rw [List.getElem?_append_right (Nat.le_refl _)]; simp)
        unfold made
        rw [List.getD_eq_getElem?_getD, List.getElem?_map, this]
        simp only [Option.map_some, Option.getD_some]
        exact reloc_not (by show ¬ ((15 : Int) = 18 ∨ (15 : Int) = 19); decide)
      obtain ⟨hL, hE⟩ := execL_env m.secret seg u.v (val u.v) hgs hT.len (fun p _ => rfl)
      have ho1 := hE out hout.1
      have hops : ∀ p ∈ reads i, val u.v p = val s.v p := fun p hp => hT.low p (hs.reads p hp).1 (hs.reads p hp).2
      have hval := hv (val u.v) (fun p hp => by rw [hops p hp]; exact hF.val p)
      have ra : i.a ∈ reads i := by unfold reads; split <;> (try split) <;> first | simp | omega
      have rb : i.b ∈ reads i := by unfold reads; split <;> (try split) <;> first | simp | omega
      have hd := hs.makes (by omega)
      -- the step of f
      have e1 : step i k s = ({ s with v := s.v.set i.d.toNat (opVal i (val s.v)) }, some (k + 1)) := by
        unfold opVal
        by_cases c12 : i.op ≤ 12
        · rw [step_le12 c12, if_pos c12]
        · unfold step; rw [if_neg c12, if_pos (by omega), if_neg c12]
      have hov : opVal i (val u.v) = opVal i (val s.v) := by
        unfold opVal
        rw [hops _ ra, hops _ rb]
        by_cases c12 : i.op ≤ 12
        · rw [if_pos c12, if_pos c12]
        · rw [if_neg c12, if_neg c12]
          have rc : i.c ∈ reads i := by unfold reads; rw [if_neg (by omega), if_pos (by omega)]; simp
          rw [hops _ rc]
      have hon := step_on hr hi (k' := k + 1) (by rw [e1])
      have hF' := hF.step hs
      rw [e1] at hF'
      have e2 : step (⟨15, i.d, out, 0, 0, 0⟩ : Instr) (pos at_ m k + seg.length) { u with v := execL seg u.v } = ({ u with v := (execL seg u.v).set i.d.toNat (opVal i (val s.v)) }, some (pos at_ m k + seg.length + 1)) := by
        unfold step
        dsimp only
        rw [if_neg (by decide), if_neg (by decide), if_neg (by decide), if_pos rfl, ← ho1, hval, hov]
      have hT' : Twin f.secret.length m.secret.length { s with v := s.v.set i.d.toNat (opVal i (val s.v)) } { u with v := (execL seg u.v).set i.d.toNat (opVal i (val s.v)) } := by
        have hlow : Twin f.secret.length m.secret.length s { u with v := execL seg u.v } := by
          refine ⟨by rw [hL]; exact hT.len, fun p h1 h2 => ?_, hT.arrs⟩
          show val (execL seg u.v) p = _
          rw [← hE p h1, ← hT.low p h1 h2]
          exact exec_old seg (val u.v) f.secret.length (fun q hq => (hg q hq).2) p h2
        exact hlow.set hnn hF.len hd _
      conv => lhs; unfold runFrom
      conv => rhs; unfold runFrom
      simp only [hci, hlast, e1, e2]
      have := sim h hr t n (k + 1) n2 _ _ (by omega) hon.2 (by omega) hF' hT'
      rw [this, hb4, Nat.add_assoc]
end Ev
