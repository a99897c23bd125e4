import Derived.Test.YtljcgcllhcdleaaLg18
/- Chapter 8, in plain words: what is made is right, and ends the same. -/
namespace Ev
theorem reloc_not {at_ : List Nat} {i : Instr} (h : ¬ (i.op = 18 ∨ i.op = 19)) : reloc at_ i = i := by unfold reloc; rw [if_neg h]
theorem reloc_op (at_ : List Nat) (i : Instr) : (reloc at_ i).op = i.op ∧ (reloc at_ i).a = i.a ∧ (reloc at_ i).d = i.d ∧ (reloc at_ i).b = i.b ∧ (reloc at_ i).c = i.c := by unfold reloc; split <;> exact ⟨rfl, rfl, rfl, rfl, rfl⟩
theorem reads_reloc (at_ : List Nat) (i : Instr) : reads (reloc at_ i) = reads i := by
  obtain ⟨h1, h2, h3, h4, h5⟩ := reloc_op at_ i
  unfold reads
  rw [h1, h2, h3, h4, h5]
/-- what came of it -/
def made (f : Flat) (at_ : List Nat) (m : Mk) : Flat := ⟨m.code.map (reloc at_), m.secret, f.params, f.arrays⟩
theorem sound_same {f x : Flat} {k p : Nat} {i j : Instr} {s : List Bool} (h : Sound f k i) (hx : x.secret = f.secret ++ s) (ha : x.arrays = f.arrays) (ho : j.op = i.op ∧ j.a = i.a ∧ j.d = i.d ∧ j.b = i.b ∧ j.c = i.c) (hi : j.imm = i.imm ∨ ((i.op = 18 ∨ i.op = 19) ∧ (p : Int) < j.imm ∧ j.imm < x.code.length)) (hn : i.op = 18 ∨ i.op = 19 → (p : Int) < j.imm ∧ j.imm < x.code.length) : Sound x p j := by
  obtain ⟨h1, h2, h3, h4, h5⟩ := ho
  have hr : reads j = reads i := by unfold reads; rw [h1, h2, h3, h4, h5]
  have inp : ∀ p, InP f.secret p → InP x.secret p := fun p hp => by rw [hx]; exact hp.app s
  refine ⟨by rw [h1]; exact h.op, by rw [hr]; exact fun p hp => inp p (h.reads p hp), by rw [h1, h3]; exact fun hop => inp _ (h.makes hop), fun h14 => ?_, by rw [h1, h4, ha]; exact h.arr, by rw [h1]; exact hn, ?_⟩
  · rw [h1] at h14
    rcases hi with hi | ⟨h, _⟩
    · rw [hi]; exact h.imm h14
    · omega
  · have hl := h.labels
    unfold secrets at hl ⊢
    rw [h1, h2, h3, h4, hr, ha]
    have sa : ∀ p, InP f.secret p → sec x.secret p = sec f.secret p := fun p hp => by rw [hx]; exact sec_app hp
    have ra : i.op ≠ 14 → i.op ≠ 18 → i.op ≠ 21 → i.a ∈ reads i := fun a b c => by
      have := h.op
      unfold reads
      by_cases d1 : 1 ≤ i.op ∧ i.op ≤ 12
      · rw [if_pos d1]; simp
      by_cases d2 : i.op = 13
      · rw [if_neg d1, if_pos d2]; simp
      by_cases d3 : i.op = 17
      · rw [if_neg d1, if_neg d2, if_pos d3]; simp
      · rw [if_neg d1, if_neg d2, if_neg d3, if_pos (by omega)]; simp
    have any : (reads i).any (sec x.secret) = (reads i).any (sec f.secret) := by
      rw [Bool.eq_iff_iff, List.any_eq_true, List.any_eq_true]
      exact ⟨fun ⟨p, hp, hq⟩ => ⟨p, hp, by rw [← sa p (h.reads p hp)]; exact hq⟩, fun ⟨p, hp, hq⟩ => ⟨p, hp, by rw [sa p (h.reads p hp)]; exact hq⟩⟩
    by_cases c16 : i.op = 16
    · rw [if_pos c16] at hl ⊢
      rw [sa _ (h.reads _ (ra (by omega) (by omega) (by omega))), sa _ (h.makes (by omega))]; exact hl
    rw [if_neg c16] at hl ⊢
    by_cases c17 : i.op = 17
    · rw [if_pos c17] at hl ⊢
      have rd : i.d ∈ reads i := by unfold reads; rw [if_neg (by omega), if_neg (by omega), if_pos c17]; simp
      rw [sa _ (h.reads _ (ra (by omega) (by omega) (by omega))), sa _ (h.reads _ rd)]; exact hl
    rw [if_neg c17] at hl ⊢
    by_cases c19 : i.op = 19
    · rw [if_pos c19] at hl ⊢
      rw [sa _ (h.reads _ (ra (by omega) (by omega) (by omega)))]; exact hl
    rw [if_neg c19] at hl ⊢
    by_cases c20 : i.op = 20
    · rw [if_pos c20]
    rw [if_neg c20] at hl ⊢
    rw [any]
    by_cases hm : i.op ≤ 16
    · rw [sa _ (h.makes hm)]; exact hl
    · have hr0 : reads i = [] := by have := h.op; unfold reads; rw [if_neg (by omega), if_neg (by omega), if_neg (by omega), if_neg (by omega)]
      rw [hr0]; rfl
theorem made_at {f : Flat} {at_ : List Nat} {m : Mk} (h : LgInv f f.code.length at_ m) (hr : Right f) {p : Nat} {x : Instr} (hp : m.code[p]? = some x) : Sound (made f at_ m) p (reloc at_ x) := by
  obtain ⟨j, i, l, q, hj, hi, rfl, hq, hb⟩ := h.cov p x hp
  have hs := hr.sound hi
  obtain ⟨s, hsm⟩ := h.sec
  have hlen : (made f at_ m).code.length = m.code.length := by simp [made]
  obtain ⟨l', hb1, hb2, hb3, hb4⟩ := h.blk j i hj hi
  rcases hb with rfl | ⟨hop, hsec, seg, out, rfl, hout, hg, _⟩
  · have hq0 : q = 0 := by
      rcases Nat.eq_zero_or_pos q with h0 | h0
      · exact h0
      · rw [List.getElem?_eq_none (by simp; omega)] at hq; cases hq
    subst hq0
    simp at hq
    subst hq
    have hjmp : i.op = 18 ∨ i.op = 19 → ((pos at_ m j + 0 : Nat) : Int) < (reloc at_ i).imm ∧ (reloc at_ i).imm < (made f at_ m).code.length := fun hop => by
      have hjm := hs.jump hop
      unfold reloc
      rw [if_pos hop]
      dsimp only
      have e : i.imm.toNat < f.code.length := by omega
      rw [h.at_ e, hlen]
      have m1 := h.mono (i.imm.toNat - j) j (by omega)
      rw [show j + (i.imm.toNat - j) = i.imm.toNat by omega] at m1
      have m2 := h.mono (f.code.length - i.imm.toNat) i.imm.toNat (by omega)
      rw [show i.imm.toNat + (f.code.length - i.imm.toNat) = f.code.length by omega, h.end_] at m2
      omega
    refine sound_same (s := s) hs hsm rfl (reloc_op at_ i) ?_ hjmp
    by_cases hop : i.op = 18 ∨ i.op = 19
    · exact .inr ⟨hop, hjmp hop⟩
    · rw [reloc_not hop]; exact .inl rfl
  · rcases Nat.lt_or_ge q seg.length with hql | hql
    · rw [List.getElem?_append_left hql] at hq
      have := (hg x (List.mem_of_getElem? hq)).1
      have hxo : ¬ (x.op = 18 ∨ x.op = 19) := by rcases this.op with ⟨h1, _⟩ | ⟨h1, _⟩ <;> omega
      rw [reloc_not hxo]
      exact good_sound this rfl _
    · rw [List.getElem?_append_right hql] at hq
      have hq0 : q - seg.length = 0 := by
        rcases Nat.eq_zero_or_pos (q - seg.length) with h0 | h0
        · exact h0
        · rw [List.getElem?_eq_none (by simp; omega)] at hq; cases hq
      rw [hq0] at hq
      simp at hq
      subst hq
      rw [reloc_not (by show ¬ ((15 : Int) = 18 ∨ (15 : Int) = 19); decide)]
      have hr1 : reads (⟨15, i.d, out, 0, 0, 0⟩ : Instr) = [out] := rfl
      refine ⟨⟨by show (1 : Int) ≤ 15; decide, by show (15 : Int) ≤ 21; decide⟩, ?_, fun _ => ?_, fun h => absurd h (by show ¬ (15 : Int) = 14; decide), fun h => absurd h (by show ¬ ((15 : Int) = 16 ∨ (15 : Int) = 17); decide), fun h => absurd h (by show ¬ ((15 : Int) = 18 ∨ (15 : Int) = 19); decide), ?_⟩
      · rw [hr1]; intro p hp; simp at hp; subst hp; exact hout
      · show InP m.secret i.d
        rw [hsm]; exact InP.app s (hs.makes (by omega))
      · show ((reads (⟨15, i.d, out, 0, 0, 0⟩ : Instr)).any (sec m.secret) && !sec m.secret i.d) = false
        rw [hsec]; simp
theorem made_right {f : Flat} {at_ : List Nat} {m : Mk} (h : LgInv f f.code.length at_ m) (hr : Right f) (hl : m.code.length ≤ 12000) : Right (made f at_ m) := by
  have hlen : (made f at_ m).code.length = m.code.length := by simp [made]
  have m0 := h.mono f.code.length 0 (by omega)
  rw [h.zero, Nat.zero_add, h.end_] at m0
  have h1 := hr.len1
  obtain ⟨s, hsm⟩ := h.sec
  refine ⟨by rw [hlen]; omega, by rw [hlen]; exact hl, hr.p0, ?_, fun k i hk => ?_, ?_⟩
  · show f.params ≤ (m.secret.length : Int)
    rw [hsm, List.length_append]
    have := hr.p1
    omega
  · unfold made at hk
    rw [List.getElem?_map] at hk
    cases hx : m.code[k]? with
    | none => rw [hx] at hk; cases hk
    | some x =>
      rw [hx] at hk
      simp only [Option.map_some] at hk
      injection hk with hk
      subst hk
      exact checkAt_sound (made_at h hr hx)
  · -- the last one
    obtain ⟨i, hi⟩ : ∃ i, f.code[f.code.length - 1]? = some i := ⟨f.code[f.code.length - 1], List.getElem?_eq_getElem (by omega)⟩
    have hlast : lastOp f = i.op := by unfold lastOp; rw [List.getD_eq_getElem?_getD, hi]; rfl
    obtain ⟨l, hb1, hb2, hb3, hb4⟩ := h.blk _ i (by omega) hi
    rw [show f.code.length - 1 + 1 = f.code.length by omega, h.end_] at hb4
    have hop := hr.last
    rw [hlast] at hop
    rcases hb1 with rfl | ⟨h6, _⟩
    · have hq := hb3 0 i rfl
      rw [List.length_singleton] at hb4
      have e : lastOp (made f at_ m) = i.op := by
        unfold lastOp
        rw [hlen, List.getD_eq_getElem?_getD]
        unfold made
        rw [List.getElem?_map, show m.code.length - 1 = pos at_ m (f.code.length - 1) + 0 by omega, hq]
        simp only [Option.map_some, Option.getD_some]
        exact (reloc_op at_ i).1
      rw [e]; exact hop
    · omega
/-! ### It ends the same -/
def execL (l : List Instr) (v : List Int) : List Int := l.foldl (fun v i => v.set i.d.toNat (if i.op = 14 then i.imm else two i.op (val v i.a) (val v i.b))) v
theorem val_set {v : List Int} {d p x : Int} (hd : 0 ≤ d) (hp : 0 ≤ p) (hl : d < v.length) : val (v.set d.toNat x) p = if p = d then x else val v p := by
  unfold val
  rw [getD_set_nat]
  by_cases h : p = d
  · subst h; rw [if_pos ⟨rfl, by omega⟩, if_pos rfl]
  · rw [if_neg (by omega), if_neg h]
theorem execL_env (S : List Bool) : ∀ (l : List Instr) (v : List Int) (e : Env), (∀ q ∈ l, GoodI S q) → S.length ≤ v.length → (∀ p, 0 ≤ p → e p = val v p) → (execL l v).length = v.length ∧ ∀ p, 0 ≤ p → exec l e p = val (execL l v) p
  | [], v, e, _, _, he => ⟨rfl, he⟩
  | i :: r, v, e, hg, hl, he => by
    have hi := hg i List.mem_cons_self
    have hd := hi.d
    have := execL_env S r (v.set i.d.toNat (if i.op = 14 then i.imm else two i.op (val v i.a) (val v i.b))) (exec1 e i) (fun q hq => hg q (List.mem_cons_of_mem _ hq)) (by rw [List.length_set]; exact hl) (fun p hp => by
      rw [val_set hd.1 hp (by have := hd.2; omega)]
      unfold exec1 upd
      rcases hi.op with ⟨h1, _⟩ | ⟨h1, h2, h3, _⟩
      · rw [if_pos h1, if_pos h1]; split
        · rfl
        · exact he p hp
      · rw [if_neg (show ¬ i.op = 14 by omega), if_neg (show ¬ i.op = 14 by omega), he _ h2.1, he _ h3.1]; split
        · rfl
        · exact he p hp)
    rw [List.length_set] at this
    exact this
theorem step_le12 {i : Instr} {k : Nat} {s : St} (h : i.op ≤ 12) : step i k s = ({ s with v := s.v.set i.d.toNat (two i.op (val s.v i.a) (val s.v i.b)) }, some (k + 1)) := by unfold step; rw [if_pos h]
theorem step_is14 {i : Instr} {k : Nat} {s : St} (h : i.op = 14) : step i k s = ({ s with v := s.v.set i.d.toNat i.imm }, some (k + 1)) := by unfold step; rw [if_neg (by omega), if_neg (by omega), if_pos h]
theorem run_seg (c : List Instr) (t : List Int) (S : List Bool) : ∀ (l : List Instr) (n p : Nat) (s : St), (∀ q ∈ l, GoodI S q) → (∀ (q : Nat) x, l[q]? = some x → c[p + q]? = some x) → (runFrom c t (l.length + n) p s).1 = (runFrom c t n (p + l.length) { s with v := execL l s.v }).1
  | [], n, p, s, _, _ => by simp [execL]
  | i :: r, n, p, s, hg, hc => by
    have hi := hg i List.mem_cons_self
    have hci : c.getD p default = i := by rw [List.getD_eq_getElem?_getD]; have := hc 0 i rfl; rw [Nat.add_zero] at this; rw [this]; rfl
    have hst : step i p s = ({ s with v := s.v.set i.d.toNat (if i.op = 14 then i.imm else two i.op (val s.v i.a) (val s.v i.b)) }, some (p + 1)) := by
      rcases hi.op with ⟨h1, _⟩ | ⟨h1, _⟩
      · rw [step_is14 h1, if_pos h1]
      · rw [step_le12 (by omega), if_neg (by omega)]
    have ih := run_seg c t S r n (p + 1) { s with v := s.v.set i.d.toNat (if i.op = 14 then i.imm else two i.op (val s.v i.a) (val s.v i.b)) } (fun q hq => hg q (List.mem_cons_of_mem _ hq)) (fun q x hq => by
      have := hc (q + 1) x (by simpa using hq)
      rw [show p + 1 + q = p + (q + 1) by omega]; exact this)
    rw [List.length_cons, show r.length + 1 + n = (r.length + n) + 1 by omega]
    conv => lhs; unfold runFrom
    simp only [hci, hst]
    rw [ih, show p + 1 + r.length = p + (r.length + 1) by omega]
    rfl
/-- two states that are the same where the old places are -/
structure Twin (n0 n1 : Nat) (s u : St) : Prop where
  len : n1 ≤ u.v.length
  low : ∀ p, 0 ≤ p → p < (n0 : Int) → val u.v p = val s.v p
  arrs : u.arrs = s.arrs
theorem Twin.set {n0 n1 : Nat} {s u : St} (h : Twin n0 n1 s u) (hn : n0 ≤ n1) (hs : s.v.length = n0) {d : Int} (hd : 0 ≤ d ∧ d < (n0 : Int)) (x : Int) : Twin n0 n1 { s with v := s.v.set d.toNat x } { u with v := u.v.set d.toNat x } := by
  have hl := h.len
  refine ⟨by rw [List.length_set]; exact h.len, fun p h1 h2 => ?_, h.arrs⟩
  show val (u.v.set d.toNat x) p = val (s.v.set d.toNat x) p
  rw [val_set hd.1 h1 (by omega), val_set hd.1 h1 (by omega), h.low p h1 h2]
theorem step_one {f : Flat} {k p : Nat} {i : Instr} {s u : St} {n1 : Nat} (hs : Sound f k i) (hF : Fine f s) (hn : f.secret.length ≤ n1) (h : Twin f.secret.length n1 s u) (h16 : i.op ≤ 17) :
    (step i k s).2 = some (k + 1) ∧ (step i p u).2 = some (p + 1) ∧ Twin f.secret.length n1 (step i k s).1 (step i p u).1 := by
  have rd : ∀ q ∈ reads i, val u.v q = val s.v q := fun q hq => h.low q (hs.reads q hq).1 (hs.reads q hq).2
  have h1 := hs.op.1
  by_cases c12 : i.op ≤ 12
  · have hr : reads i = [i.a, i.b] := by unfold reads; rw [if_pos (by omega)]
    rw [hr] at rd
    rw [step_le12 c12, step_le12 c12, rd i.a (by simp), rd i.b (by simp)]
    exact ⟨rfl, rfl, h.set hn hF.len (hs.makes (by omega)) _⟩
  by_cases c13 : i.op = 13
  · have hr : reads i = [i.a, i.b, i.c] := by unfold reads; rw [if_neg (by omega), if_pos c13]
    rw [hr] at rd
    have e : ∀ k (s : St), step i k s = ({ s with v := s.v.set i.d.toNat (sel (val s.v i.a) (val s.v i.b) (val s.v i.c)) }, some (k + 1)) := fun k s => by unfold step; rw [if_neg c12, if_pos c13]
    rw [e, e, rd i.a (by simp), rd i.b (by simp), rd i.c (by simp)]
    exact ⟨rfl, rfl, h.set hn hF.len (hs.makes (by omega)) _⟩
  by_cases c14 : i.op = 14
  · rw [step_is14 c14, step_is14 c14]
    exact ⟨rfl, rfl, h.set hn hF.len (hs.makes (by omega)) _⟩
  have ra : i.a ∈ reads i := by
    unfold reads
    by_cases d3 : i.op = 17
    · rw [if_neg (by omega), if_neg c13, if_pos d3]; simp
    · rw [if_neg (by omega), if_neg c13, if_neg d3, if_pos (by omega)]; simp
  have ea := rd i.a ra
  by_cases c15 : i.op = 15
  · have e : ∀ k (s : St), step i k s = ({ s with v := s.v.set i.d.toNat (val s.v i.a) }, some (k + 1)) := fun k s => by unfold step; rw [if_neg c12, if_neg c13, if_neg c14, if_pos c15]
    rw [e, e, ea]
    exact ⟨rfl, rfl, h.set hn hF.len (hs.makes (by omega)) _⟩
  by_cases c16 : i.op = 16
  · have e : ∀ k (s : St), step i k s = ({ s with v := s.v.set i.d.toNat (arrAt s.arrs i.b (val s.v i.a)) }, some (k + 1)) := fun k s => by unfold step; rw [if_neg c12, if_neg c13, if_neg c14, if_neg c15, if_pos c16]
    have hA : arrAt u.arrs i.b (val s.v i.a) = arrAt s.arrs i.b (val s.v i.a) := by rw [h.arrs]
    rw [e, e, ea, hA]
    exact ⟨rfl, rfl, h.set hn hF.len (hs.makes (by omega)) _⟩
  · have c17 : i.op = 17 := by omega
    have rdd : i.d ∈ reads i := by unfold reads; rw [if_neg (by omega), if_neg c13, if_pos c17]; simp
    rw [step_store c17, step_store c17, ea, rd i.d rdd, h.arrs]
    refine ⟨rfl, rfl, ?_⟩
    split
    · exact ⟨h.len, h.low, rfl⟩
    · exact ⟨h.len, h.low, h.arrs⟩
theorem exec_old : ∀ (l : List Instr) (e : Env) (n : Nat), (∀ q ∈ l, (n : Int) ≤ q.d) → ∀ p, p < (n : Int) → exec l e p = e p
  | [], e, n, _, p, _ => rfl
  | i :: r, e, n, h, p, hp => by
    have := exec_old r (exec1 e i) n (fun q hq => h q (List.mem_cons_of_mem _ hq)) p hp
    show exec r (exec1 e i) p = e p
    rw [this]
    unfold exec1 upd
    rw [if_neg (by have := h i List.mem_cons_self; omega)]
theorem sim {f : Flat} {at_ : List Nat} {m : Mk} (h : LgInv f f.code.length at_ m) (hr : Right f) (t : List Int) : ∀ (n k : Nat) (n' : Nat) (s u : St), f.code.length ≤ n + k → k < f.code.length → m.code.length ≤ n' + pos at_ m k → Fine f s → Twin f.secret.length m.secret.length s u →
    (runFrom f.code t n k s).1 = (runFrom (made f at_ m).code t n' (pos at_ m k) u).1
  | 0, k, n', s, u, hn, hk, _, _, _ => by omega
  | n + 1, k, n', s, u, hn, hk, hn', hF, hT => by
    obtain ⟨i, hi⟩ : ∃ i, f.code[k]? = some i := ⟨f.code[k], List.getElem?_eq_getElem hk⟩
    have hs := hr.sound hi
    have hci : f.code.getD k default = i := by rw [List.getD_eq_getElem?_getD, hi]; rfl
    obtain ⟨sx, hsm⟩ := h.sec
    have hnn : f.secret.length ≤ m.secret.length := by rw [hsm, List.length_append]; omega
    obtain ⟨l, hb1, hb2, hb3, hb4⟩ := h.blk k i hk hi
    have hend : pos at_ m (k + 1) ≤ m.code.length := by
      have m2 := h.mono (f.code.length - (k + 1)) (k + 1) (by omega)
      rw [show k + 1 + (f.code.length - (k + 1)) = f.code.length by omega, h.end_] at m2
      omega
    rcases hb1 with rfl | ⟨hop, hsec, seg, out, rfl, hout, hg, hv⟩
    · rw [List.length_singleton] at hb4
      have hq := hb3 0 i rfl
      rw [Nat.add_zero] at hq
      have hcx : (made f at_ m).code.getD (pos at_ m k) default = reloc at_ i := by
        unfold made
        rw [List.getD_eq_getElem?_getD, List.getElem?_map, hq]; rfl
      obtain ⟨n2, rfl⟩ : ∃ n2, n' = n2 + 1 := ⟨n' - 1, by omega⟩
      unfold runFrom
      simp only [hci, hcx]
      by_cases h17 : i.op ≤ 17
      · rw [reloc_not (by omega)]
        obtain ⟨e1, e2, hT'⟩ := step_one (p := pos at_ m k) hs hF hnn hT h17
        have hF' := hF.step hs
        have hon := step_on hr hi e1
        generalize hx : step i k s = X at *
        generalize hy : step i (pos at_ m k) u = Y at *
        obtain ⟨X1, X2⟩ := X
        obtain ⟨Y1, Y2⟩ := Y
        simp only at e1 e2 hT' hF'
        subst e1 e2
        dsimp only
        have := sim h hr t n (k + 1) n2 X1 Y1 (by omega) hon.2 (by omega) hF' hT'
        rw [hb4] at this
        exact this
      · have hop := hs.op
        have hva : i.op = 19 ∨ i.op = 20 → val u.v i.a = val s.v i.a := fun hc => by
          have : i.a ∈ reads i := by unfold reads; rw [if_neg (by omega), if_neg (by omega), if_neg (by omega), if_pos (by omega)]; simp
          exact hT.low _ (hs.reads _ this).1 (hs.reads _ this).2
        have go : ∀ k', k < k' → k' < f.code.length → (runFrom f.code t n k' s).1 = (runFrom (made f at_ m).code t n2 (pos at_ m k') u).1 := fun k' h1 h2 => by
          have m1 := h.mono (k' - k) k (by omega)
          rw [show k + (k' - k) = k' by omega] at m1
          exact sim h hr t n k' n2 s u (by omega) h2 (by omega) hF hT
        by_cases c18 : i.op = 18
        · have hj := hs.jump (.inl c18)
          have e1 : step i k s = (s, some i.imm.toNat) := by unfold step; rw [if_neg (by omega), if_neg (by omega), if_neg (by omega), if_neg (by omega), if_neg (by omega), if_neg (by omega), if_pos c18]
          have e2 : step (reloc at_ i) (pos at_ m k) u = (u, some (pos at_ m i.imm.toNat)) := by
            have e0 := h.at_ (j := i.imm.toNat) (by omega)
            unfold reloc
            rw [if_pos (.inl c18)]
            unfold step
            dsimp only
            rw [if_neg (by omega), if_neg (by omega), if_neg (by omega), if_neg (by omega), if_neg (by omega), if_neg (by omega), if_pos c18, e0]
            simp
          rw [e1, e2]
          exact go _ (by omega) (by omega)
        by_cases c19 : i.op = 19
        · have hj := hs.jump (.inr c19)
          have e1 : step i k s = (s, some (if val s.v i.a = 0 then i.imm.toNat else k + 1)) := by unfold step; rw [if_neg (by omega), if_neg (by omega), if_neg (by omega), if_neg (by omega), if_neg (by omega), if_neg (by omega), if_neg c18, if_pos c19]
          have e2 : step (reloc at_ i) (pos at_ m k) u = (u, some (if val u.v i.a = 0 then pos at_ m i.imm.toNat else pos at_ m k + 1)) := by
            have e0 := h.at_ (j := i.imm.toNat) (by omega)
            unfold reloc
            rw [if_pos (.inr c19)]
            unfold step
            dsimp only
            rw [if_neg (by omega), if_neg (by omega), if_neg (by omega), if_neg (by omega), if_neg (by omega), if_neg (by omega), if_neg c18, if_pos c19, e0]
            simp
          have hon := step_on hr hi (k' := if val s.v i.a = 0 then i.imm.toNat else k + 1) (by rw [e1])
          rw [e1, e2, hva (.inl c19)]
          dsimp only
          by_cases h0 : val s.v i.a = 0
          · rw [if_pos h0, if_pos h0]
            exact go _ (by omega) (by omega)
          · rw [if_neg h0] at hon
            rw [if_neg h0, if_neg h0, ← hb4]
            exact go _ (by omega) hon.2
        · rw [reloc_not (by omega)]
          have e : ∀ k (s : St), step i k s = (s, none) := fun k s => by unfold step; rw [if_neg (by omega), if_neg (by omega), if_neg (by omega), if_neg (by omega), if_neg (by omega), if_neg (by omega), if_neg c18, if_neg c19, if_pos (by omega)]
          rw [e, e]
          dsimp only
          unfold endOf
          rw [hT.arrs]
          by_cases c21 : i.op = 21
          · rw [if_pos c21, if_pos c21]
          · rw [if_neg c21, if_neg c21, hva (.inr (by omega))]
    · have hll : (seg ++ [(⟨15, i.d, out, 0, 0, 0⟩ : Instr)]).length = seg.length + 1 := by simp
      rw [hll] at hb4
      obtain ⟨n2, rfl⟩ : ∃ n2, n' = seg.length + (n2 + 1) := ⟨n' - seg.length - 1, by omega⟩
      have hgs : ∀ q ∈ seg, GoodI m.secret q := fun q hq => (hg q hq).1
      have hcode : ∀ (q : Nat) x, seg[q]? = some x → (made f at_ m).code[pos at_ m k + q]? = some x := fun q x hq => by
        have hql : q < seg.length := (List.getElem?_eq_some_iff.1 hq).1
        have := hb3 q x (by rw [List.getElem?_append_left hql]; exact hq)
        unfold made
        rw [List.getElem?_map, this]
        have hx := hgs x (List.mem_of_getElem? hq)
        have hxo : ¬ (x.op = 18 ∨ x.op = 19) := by rcases hx.op with ⟨h1, _⟩ | ⟨h1, _⟩ <;> omega
        simp only [Option.map_some, reloc_not hxo]
      rw [run_seg _ t m.secret seg (n2 + 1) _ u hgs hcode]
      have hlast : (made f at_ m).code.getD (pos at_ m k + seg.length) default = (⟨15, i.d, out, 0, 0, 0⟩ : Instr) := by
        have := hb3 seg.length ⟨15, i.d, out, 0, 0, 0⟩ (by rw [List.getElem?_append_right (Nat.le_refl _)]; simp)
        unfold made
        rw [List.getD_eq_getElem?_getD, List.getElem?_map, this]
        simp only [Option.map_some, Option.getD_some]
        exact reloc_not (by show ¬ ((15 : Int) = 18 ∨ (15 : Int) = 19); decide)
      obtain ⟨hL, hE⟩ := execL_env m.secret seg u.v (val u.v) hgs hT.len (fun p _ => rfl)
      have ho1 := hE out hout.1
      have hops : ∀ p ∈ reads i, val u.v p = val s.v p := fun p hp => hT.low p (hs.reads p hp).1 (hs.reads p hp).2
      have hval := hv (val u.v) (fun p hp => by rw [hops p hp]; exact hF.val p)
      have ra : i.a ∈ reads i := by unfold reads; split <;> (try split) <;> first | simp | omega
      have rb : i.b ∈ reads i := by unfold reads; split <;> (try split) <;> first | simp | omega
      have hd := hs.makes (by omega)
      -- the step of f
      have e1 : step i k s = ({ s with v := s.v.set i.d.toNat (opVal i (val s.v)) }, some (k + 1)) := by
        unfold opVal
        by_cases c12 : i.op ≤ 12
        · rw [step_le12 c12, if_pos c12]
        · unfold step; rw [if_neg c12, if_pos (by omega), if_neg c12]
      have hov : opVal i (val u.v) = opVal i (val s.v) := by
        unfold opVal
        rw [hops _ ra, hops _ rb]
        by_cases c12 : i.op ≤ 12
        · rw [if_pos c12, if_pos c12]
        · rw [if_neg c12, if_neg c12]
          have rc : i.c ∈ reads i := by unfold reads; rw [if_neg (by omega), if_pos (by omega)]; simp
          rw [hops _ rc]
      have hon := step_on hr hi (k' := k + 1) (by rw [e1])
      have hF' := hF.step hs
      rw [e1] at hF'
      have e2 : step (⟨15, i.d, out, 0, 0, 0⟩ : Instr) (pos at_ m k + seg.length) { u with v := execL seg u.v } = ({ u with v := (execL seg u.v).set i.d.toNat (opVal i (val s.v)) }, some (pos at_ m k + seg.length + 1)) := by
        unfold step
        dsimp only
        rw [if_neg (by decide), if_neg (by decide), if_neg (by decide), if_pos rfl, ← ho1, hval, hov]
      have hT' : Twin f.secret.length m.secret.length { s with v := s.v.set i.d.toNat (opVal i (val s.v)) } { u with v := (execL seg u.v).set i.d.toNat (opVal i (val s.v)) } := by
        have hlow : Twin f.secret.length m.secret.length s { u with v := execL seg u.v } := by
          refine ⟨by rw [hL]; exact hT.len, fun p h1 h2 => ?_, hT.arrs⟩
          show val (execL seg u.v) p = _
          rw [← hE p h1, ← hT.low p h1 h2]
          exact exec_old seg (val u.v) f.secret.length (fun q hq => (hg q hq).2) p h2
        exact hlow.set hnn hF.len hd _
      conv => lhs; unfold runFrom
      conv => rhs; unfold runFrom
      simp only [hci, hlast, e1, e2]
      have := sim h hr t n (k + 1) n2 _ _ (by omega) hon.2 (by omega) hF' hT'
      rw [this, hb4, Nat.add_assoc]
end Ev
/- Chapter 8, in plain words: the three laws. -/
namespace Ev
theorem lg_err (t : List Int) : ∀ (r : List Instr) (m : Mk) (at_ : List Nat), (lgFrom t r m at_).1 = 0 ∨ (lgFrom t r m at_).1 = 4 ∨ (lgFrom t r m at_).1 = 11
  | [], m, at_ => .inl rfl
  | i :: r, m, at_ => by
    unfold lgFrom
    split
    · exact lg_err t r _ _
    · cases mkOther m i with
      | none => dsimp only; split <;> simp
      | some m' =>
        dsimp only
        split
        · simp
        · exact lg_err t r _ _
theorem legal_err (f : Flat) (t : List Int) : (legal f t).1 = 0 ∨ (((legal f t).1 = 4 ∨ (legal f t).1 = 11) ∧ (legal f t).2 = noFlat) := by
  have := lg_err t f.code ⟨[], f.secret⟩ []
  unfold legal legalOf
  generalize lgFrom t f.code ⟨[], f.secret⟩ [] = X at *
  by_cases h : X.1 ≠ 0
  · rw [if_pos h]; exact .inr ⟨by simp only; omega, rfl⟩
  rw [if_neg h]
  split
  · exact .inr ⟨.inl rfl, rfl⟩
  split
  · exact .inr ⟨.inr rfl, rfl⟩
  · exact .inl rfl
theorem legal_ok {f : Flat} {t : List Int} (hr : Right f) (ht : wrong t = 0) (h : (legal f t).1 = 0) :
    ∃ at_ m, LgInv f f.code.length at_ m ∧ (legal f t).2 = made f at_ m ∧ m.code.length ≤ 12000 ∧ ∀ i ∈ m.code, i.op ≤ 17 → mkShows m t i = false := by
  unfold legal legalOf at *
  have hinv := lg_inv ht (fun k i hk => hr.sound hk) f.code 0 ⟨[], f.secret⟩ [] rfl (by omega) (lg_start f)
  generalize lgFrom t f.code ⟨[], f.secret⟩ [] = X at *
  obtain ⟨e, at_, m⟩ := X
  dsimp only at *
  by_cases h1 : e ≠ 0
  · rw [if_pos h1] at h; exact absurd h h1
  rw [if_neg h1] at h ⊢
  by_cases h2 : 12000 < m.code.length
  · rw [if_pos h2] at h; exact absurd h (by decide)
  rw [if_neg h2] at h ⊢
  by_cases h3 : m.code.any (fun i => decide (i.op ≤ 17) && mkShows m t i) = true
  · rw [if_pos h3] at h; exact absurd h (by decide)
  rw [if_neg h3]
  obtain rfl : e = 0 := by omega
  refine ⟨at_, m, hinv _ _ rfl, rfl, by omega, fun i hi hop => ?_⟩
  cases hs : mkShows m t i with
  | false => rfl
  | true => exact absurd (List.any_eq_true.2 ⟨i, hi, by rw [hs, decide_eq_true hop]; rfl⟩) h3
structure LegalGood (f x : Flat) (t : List Int) : Prop where
  right : Right x
  params : x.params = f.params
  arrays : x.arrays = f.arrays
  sec : ∃ s, x.secret = f.secret ++ s
  even : ∀ i ∈ x.code, shows x t i = false
theorem legal_shows {f : Flat} {t : List Int} (hr : Right f) (ht : wrong t = 0) (h : (legal f t).1 = 0) : LegalGood f (legal f t).2 t := by
  obtain ⟨at_, m, hi, hx, hl, hs⟩ := legal_ok hr ht h
  rw [hx]
  refine ⟨made_right hi hr hl, rfl, rfl, hi.sec, fun i hi' => ?_⟩
  unfold made at hi'
  obtain ⟨y, hy, rfl⟩ := List.mem_map.1 hi'
  obtain ⟨e1, e2, e3, e4, e5⟩ := reloc_op at_ y
  by_cases h17 : y.op ≤ 17
  · have := hs y hy h17
    unfold mkShows at this
    unfold shows at this ⊢
    rw [e1, e2, e3, e4, e5]
    exact this
  · unfold shows
    rw [e1, decide_eq_false (by omega)]
    rfl
theorem legal_same {f : Flat} {t : List Int} {g : Given} (hr : Right f) (ht : wrong t = 0) (h : (legal f t).1 = 0) (hw : g.words.length ≤ f.secret.length) (hF : Fine f (start f.secret.length g)) (t' : List Int) : (run f t' g).1 = (run (legal f t).2 t' g).1 := by
  obtain ⟨at_, m, hi, hx, hl, hs⟩ := legal_ok hr ht h
  rw [hx]
  obtain ⟨s, hsm⟩ := hi.sec
  have hn : f.secret.length ≤ m.secret.length := by rw [hsm, List.length_append]; omega
  unfold run
  have h1 := hr.len1
  have := sim hi hr t' f.code.length 0 (made f at_ m).code.length (start f.secret.length g) (start m.secret.length g) (by omega) h1 (by simp [made]) hF ⟨?_, fun p h1 h2 => ?_, rfl⟩
  · rw [hi.zero] at this; exact this
  · unfold start; simp; omega
  · unfold val
    rw [start_at _ _ _ (by omega), start_at _ _ _ hw]
/-- a table that shows nothing of what all else can be made of -/
def plainT (t : List Int) : Bool := decide (seenOf t 1 = 0 ∧ seenOf t 2 = 0 ∧ seenOf t 3 = 0 ∧ seenOf t 4 = 0 ∧ seenOf t 5 = 0 ∧ seenOf t 15 = 0) && decide (seenOf t 6 % 2 = 0 ∧ seenOf t 7 % 2 = 0 ∧ seenOf t 17 / 2 = 0)
def cnt (f : Flat) (t : List Int) (l : List Instr) : Nat := (l.filter (shows f t)).length
def noWay (i : Instr) : Bool := decide (i.op = 1 ∨ i.op = 2 ∨ i.op = 3 ∨ i.op = 4 ∨ i.op = 5 ∨ i.op = 15 ∨ i.op = 17)
theorem bit_zero (k : Nat) : hasBit 0 k = false := by
  unfold hasBit
  simp
theorem bits_of_most {t : List Int} {op : Int} (ht : wrong t = 0) (h : 1 ≤ op ∧ op ≤ 17) (k : Nat) (hk : k < 3) (hb : hasBit (most op) k = false) : hasBit (seenOf t op) k = false := by
  have hms : most op = 0 ∨ most op = 1 ∨ most op = 3 ∨ most op = 7 := by unfold most all; split <;> (try split) <;> (try split) <;> (try split) <;> (try split) <;> (try split) <;> simp
  have hsm := (sub_small hms (table_bits ht h.1 h.2)).2
  cases hh : hasBit (seenOf t op) k with
  | false => rfl
  | true => rw [hsm k hk hh] at hb; cases hb
theorem shows_ops {f : Flat} {t : List Int} {k : Nat} {i : Instr} (ht : wrong t = 0) (hs : Sound f k i) (h : shows f t i = true) : noWay i = true ∨ (6 ≤ i.op ∧ i.op ≤ 13) := by
  unfold shows at h
  simp only [Bool.and_eq_true, decide_eq_true_eq] at h
  obtain ⟨h1, h2⟩ := h
  unfold noWay
  rw [decide_eq_true_eq]
  by_cases c14 : i.op = 14
  · exfalso
    have hm : most i.op = 0 := by rw [c14]; rfl
    rw [bits_of_most ht h1 0 (by decide) (by rw [hm]; decide), bits_of_most ht h1 1 (by decide) (by rw [hm]; decide), bits_of_most ht h1 2 (by decide) (by rw [hm]; decide)] at h2
    simp at h2
  by_cases c16 : i.op = 16
  · exfalso
    have hm : most i.op = 1 := by rw [c16]; rfl
    rw [bits_of_most ht h1 1 (by decide) (by rw [hm]; decide), bits_of_most ht h1 2 (by decide) (by rw [hm]; decide)] at h2
    have hl := hs.labels
    unfold secrets at hl
    rw [if_pos c16] at hl
    simp at h2 hl
    rw [h2.2] at hl
    simp at hl
  · omega
theorem lg_none {f : Flat} {t : List Int} (ht : wrong t = 0) (hs : ∀ (k : Nat) i, f.code[k]? = some i → Sound f k i) : ∀ (r : List Instr) (k : Nat) (m : Mk) (at_ : List Nat), f.code.drop k = r → k + r.length = f.code.length → m.secret = f.secret → (∀ i ∈ r, shows f t i = false) → ∃ at', lgFrom t r m at_ = (0, at', ⟨m.code ++ r, f.secret⟩)
  | [], k, m, at_, hr, hk, hm, hn => ⟨at_, by unfold lgFrom; rw [List.append_nil, ← hm]⟩
  | i :: r, k, m, at_, hr, hk, hm, hn => by
    have hik : f.code[k]? = some i := by
      have : (f.code.drop k)[0]? = some i := by rw [hr]; rfl
      rw [List.getElem?_drop] at this
      simpa using this
    have hr' : f.code.drop (k + 1) = r := by
      rw [show k + 1 = 1 + k by omega, Nat.add_comm, ← List.drop_drop, hr]; rfl
    have hk' : k + 1 + r.length = f.code.length := by rw [List.length_cons] at hk; omega
    unfold lgFrom
    rw [if_pos (.inr (by rw [shows_pre (hs k i hik) ht (s := []) (by rw [hm, List.append_nil])]; exact hn i List.mem_cons_self))]
    obtain ⟨at', h⟩ := lg_none ht hs r (k + 1) (m.put i) (at_ ++ [m.code.length]) hr' hk' hm (fun j hj => hn j (List.mem_cons_of_mem _ hj))
    exact ⟨at', by rw [h]; simp [Mk.put]⟩
theorem lg_when {f : Flat} {t : List Int} (ht : wrong t = 0) (hs : ∀ (k : Nat) i, f.code[k]? = some i → Sound f k i) : ∀ (r : List Instr) (k : Nat) (m : Mk) (at_ : List Nat), f.code.drop k = r → k + r.length = f.code.length → (∃ s, m.secret = f.secret ++ s) → m.code.length + r.length + 1000 * cnt f t r ≤ 12000 →
    ((∃ i ∈ r, shows f t i = true ∧ noWay i = true) → (lgFrom t r m at_).1 = 11) ∧ ((∀ i ∈ r, shows f t i = true → noWay i = false) → (lgFrom t r m at_).1 = 0 ∧ (lgFrom t r m at_).2.2.code.length ≤ 12000)
  | [], k, m, at_, hr, hk, hm, hb => ⟨fun ⟨i, hi, _⟩ => absurd hi (by simp), fun _ => ⟨rfl, by unfold lgFrom; simp [cnt] at hb; exact hb⟩⟩
  | i :: r, k, m, at_, hr, hk, hm, hb => by
    have hik : f.code[k]? = some i := by
      have : (f.code.drop k)[0]? = some i := by rw [hr]; rfl
      rw [List.getElem?_drop] at this
      simpa using this
    have hr' : f.code.drop (k + 1) = r := by
      rw [show k + 1 = 1 + k by omega, Nat.add_comm, ← List.drop_drop, hr]; rfl
    have hk' : k + 1 + r.length = f.code.length := by rw [List.length_cons] at hk; omega
    obtain ⟨s, hsm⟩ := hm
    have hpre := shows_pre (hs k i hik) ht hsm
    have hsnd := hs k i hik
    rw [List.length_cons] at hb
    cases hsh : shows f t i with
    | false =>
      have hc : cnt f t (i :: r) = cnt f t r := by unfold cnt; rw [List.filter_cons_of_neg (by simp [hsh])]
      rw [hc] at hb
      unfold lgFrom
      rw [if_pos (.inr (hpre.trans hsh))]
      obtain ⟨h1, h2⟩ := lg_when ht hs r (k + 1) (m.put i) (at_ ++ [m.code.length]) hr' hk' ⟨s, hsm⟩ (by simp [Mk.put]; omega)
      refine ⟨fun ⟨j, hj, hjs, hjn⟩ => h1 ?_, fun hall => h2 (fun j hj => hall j (List.mem_cons_of_mem _ hj))⟩
      rcases List.mem_cons.1 hj with rfl | hj
      · rw [hsh] at hjs; cases hjs
      · exact ⟨j, hj, hjs, hjn⟩
    | true =>
      have hc : cnt f t (i :: r) = cnt f t r + 1 := by unfold cnt; rw [List.filter_cons_of_pos hsh]; simp
      rw [hc] at hb
      have h17 : i.op ≤ 17 := by
        unfold shows at hsh
        simp only [Bool.and_eq_true, decide_eq_true_eq] at hsh
        exact hsh.1.2
      unfold lgFrom
      rw [if_neg (by rw [hpre, hsh]; simp; exact h17)]
      cases ho : mkOther m i with
      | none =>
        dsimp only
        rw [if_neg (by omega)]
        have hno : noWay i = true := by
          rcases shows_ops ht hsnd hsh with h | h
          · exact h
          · unfold mkOther at ho
            cases hq : mkOut m i with
            | none => exact absurd h (out_none hq)
            | some r => rw [hq] at ho; cases ho
        exact ⟨fun _ => rfl, fun hall => by rw [hall i List.mem_cons_self hsh] at hno; cases hno⟩
      | some m2 =>
        dsimp only
        obtain ⟨l, s', _, h2, h3, _⟩ := other_blk hsnd ht hsm (hpre.trans hsh) ho
        have hlen : m2.code.length ≤ m.code.length + 963 := by
          unfold mkOther at ho
          cases hq : mkOut m i with
          | none => rw [hq] at ho; cases ho
          | some q =>
            rw [hq] at ho
            simp only [Option.map_some] at ho
            injection ho with ho
            subst ho
            have := out_code hq
            simp [Mk.put]; omega
        rw [if_neg (by omega)]
        obtain ⟨h4, h5⟩ := lg_when ht hs r (k + 1) m2 (at_ ++ [m.code.length]) hr' hk' ⟨s ++ s', by rw [h3, hsm, List.append_assoc]⟩ (by omega)
        have hyes : noWay i = false := by
          unfold mkOther at ho
          cases hq : mkOut m i with
          | none => rw [hq] at ho; cases ho
          | some q => have := out_some hq; unfold noWay; rw [decide_eq_false (by omega)]
        refine ⟨fun ⟨j, hj, hjs, hjn⟩ => h4 ?_, fun hall => h5 (fun j hj => hall j (List.mem_cons_of_mem _ hj))⟩
        rcases List.mem_cons.1 hj with rfl | hj
        · rw [hyes] at hjn; cases hjn
        · exact ⟨j, hj, hjs, hjn⟩
/-- an instruction that shows nothing, of places that are there -/
def Cln (S : List Bool) (t : List Int) (x : Instr) : Prop := (∀ p ∈ reads x, InP S p) ∧ mkShows ⟨[], S⟩ t x = false
theorem Cln.app {S : List Bool} {t : List Int} {x : Instr} (h : Cln S t x) (ht : wrong t = 0) (s : List Bool) : Cln (S ++ s) t x :=
  ⟨fun p hp => (h.1 p hp).app s, (shows_pre' (f := ⟨[], S, 0, []⟩) (m := ⟨[], S ++ s⟩) h.1 ht rfl).trans h.2⟩
theorem good_clean {S : List Bool} {t : List Int} {q : Instr} (ht : wrong t = 0) (hp : plainT t = true) (h : GoodI S q) : Cln S t q := by
  unfold plainT at hp
  simp only [Bool.and_eq_true, decide_eq_true_eq] at hp
  obtain ⟨⟨p1, p2, p3, p4, p5, p15⟩, p6, p7, p17⟩ := hp
  rcases h.op with ⟨h1, h2⟩ | ⟨h1, h2, h3, h4, h5⟩
  · have hr : reads q = [] := by unfold reads; rw [if_neg (by omega), if_neg (by omega), if_neg (by omega), if_neg (by omega)]
    refine ⟨by rw [hr]; simp, ?_⟩
    have hm : most q.op = 0 := by rw [h1]; rfl
    unfold mkShows shows
    rw [bits_of_most ht (by omega) 0 (by decide) (by rw [hm]; decide), bits_of_most ht (by omega) 1 (by decide) (by rw [hm]; decide), bits_of_most ht (by omega) 2 (by decide) (by rw [hm]; decide)]
    simp
  · have hr : reads q = [q.a, q.b] := by unfold reads; rw [if_pos (by omega)]
    refine ⟨fun p hp => ?_, ?_⟩
    · rw [hr] at hp; simp at hp; rcases hp with rfl | rfl
      · exact h2
      · exact h3
    have hm : most q.op = 3 := by unfold most all; rw [if_neg (by omega), if_pos (by omega)]
    unfold mkShows shows Mk.flat
    dsimp only
    rw [bits_of_most ht (by omega) 2 (by decide) (by rw [hm]; decide), if_neg (show ¬ q.op = 17 by omega)]
    by_cases h6 : 6 ≤ q.op
    · have e0 : hasBit (seenOf t q.op) 0 = false := by
        unfold hasBit
        have : seenOf t q.op % 2 = 0 := by rcases (show q.op = 6 ∨ q.op = 7 by omega) with h | h <;> rw [h] <;> assumption
        simp; omega
      rw [e0, h5 h6]
      simp
    · have e0 : seenOf t q.op = 0 := by rcases (show q.op = 1 ∨ q.op = 2 ∨ q.op = 3 ∨ q.op = 4 ∨ q.op = 5 by omega) with h | h | h | h | h <;> rw [h] <;> assumption
      rw [e0, bit_zero, bit_zero]
      simp
theorem lg_clean {f : Flat} {t : List Int} (ht : wrong t = 0) (hp : plainT t = true) (hs : ∀ (k : Nat) i, f.code[k]? = some i → Sound f k i) : ∀ (r : List Instr) (k : Nat) (m : Mk) (at_ : List Nat), f.code.drop k = r → k + r.length = f.code.length → (∃ s, m.secret = f.secret ++ s) → (∀ x ∈ m.code, x.op ≤ 17 → Cln m.secret t x) →
    (lgFrom t r m at_).1 = 0 → ∀ x ∈ (lgFrom t r m at_).2.2.code, x.op ≤ 17 → Cln (lgFrom t r m at_).2.2.secret t x
  | [], k, m, at_, hr, hk, hm, hc, h => hc
  | i :: r, k, m, at_, hr, hk, hm, hc, h => by
    have hik : f.code[k]? = some i := by
      have : (f.code.drop k)[0]? = some i := by rw [hr]; rfl
      rw [List.getElem?_drop] at this
      simpa using this
    have hr' : f.code.drop (k + 1) = r := by
      rw [show k + 1 = 1 + k by omega, Nat.add_comm, ← List.drop_drop, hr]; rfl
    have hk' : k + 1 + r.length = f.code.length := by rw [List.length_cons] at hk; omega
    obtain ⟨s, hsm⟩ := hm
    have hsnd := hs k i hik
    unfold lgFrom at h ⊢
    by_cases hcn : 17 < i.op ∨ mkShows m t i = false
    · rw [if_pos hcn] at h ⊢
      refine lg_clean ht hp hs r (k + 1) _ _ hr' hk' ⟨s, hsm⟩ (fun x hx hop => ?_) h
      rcases List.mem_append.1 hx with hx | hx
      · exact hc x hx hop
      · simp at hx
        subst hx
        rcases hcn with hcn | hcn
        · omega
        · exact ⟨fun p hp => by show InP m.secret p; rw [hsm]; exact InP.app s (hsnd.reads p hp), hcn⟩
    · rw [if_neg hcn] at h ⊢
      have hsh : mkShows m t i = true := by
        cases hh : mkShows m t i with
        | true => rfl
        | false => exact absurd (.inr hh) hcn
      cases ho : mkOther m i with
      | none => rw [ho] at h; dsimp only at h; split at h <;> cases h
      | some m2 =>
        rw [ho] at h
        dsimp only at h ⊢
        by_cases hl : 12000 < m2.code.length
        · rw [if_pos hl] at h; cases h
        rw [if_neg hl] at h ⊢
        obtain ⟨l, s', _, h2, h3, h4⟩ := other_blk hsnd ht hsm hsh ho
        refine lg_clean ht hp hs r (k + 1) _ _ hr' hk' ⟨s ++ s', by rw [h3, hsm, List.append_assoc]⟩ (fun x hx hop => ?_) h
        rw [h2] at hx
        rcases List.mem_append.1 hx with hx | hx
        · rw [h3]; exact (hc x hx hop).app ht s'
        · rcases h4 with rfl | ⟨_, _, seg, out, rfl, hout, hg, _⟩
          · -- a block of one: an instruction that shows
            exfalso
            unfold mkOther at ho
            cases hq : mkOut m i with
            | none => rw [hq] at ho; cases ho
            | some q =>
              rw [hq] at ho
              simp only [Option.map_some] at ho
              injection ho with ho
              subst ho
              have h5 := out_code hq
              have := congrArg List.length h2
              simp [Mk.put] at this
              omega
          · rcases List.mem_append.1 hx with hx | hx
            · exact good_clean ht hp (hg x hx).1
            · simp at hx
              subst hx
              have hr1 : reads (⟨15, i.d, out, 0, 0, 0⟩ : Instr) = [out] := rfl
              refine ⟨(by rw [hr1]; intro p hp; simp at hp; subst hp; exact hout), ?_⟩
              unfold plainT at hp
              simp only [Bool.and_eq_true, decide_eq_true_eq] at hp
              unfold mkShows shows
              dsimp only
              rw [hp.1.2.2.2.2.2, bit_zero, bit_zero, bit_zero]
              simp
theorem legal_when {f : Flat} {t : List Int} (hr : Right f) (ht : wrong t = 0) (hb : f.code.length + 1000 * cnt f t f.code ≤ 12000) :
    (cnt f t f.code = 0 → (legal f t).1 = 0) ∧ ((∃ i ∈ f.code, shows f t i = true ∧ noWay i = true) → (legal f t).1 = 11) ∧ ((∀ i ∈ f.code, shows f t i = true → noWay i = false) → plainT t = true → (legal f t).1 = 0) := by
  have hs : ∀ (k : Nat) i, f.code[k]? = some i → Sound f k i := fun k i hk => hr.sound hk
  have hw := lg_when ht hs f.code 0 ⟨[], f.secret⟩ [] rfl (by omega) ⟨[], by simp⟩ (by simp; omega)
  refine ⟨fun h0 => ?_, fun hn => ?_, fun hn hp => ?_⟩
  · have hno : ∀ i ∈ f.code, shows f t i = false := fun i hi => by
      cases hh : shows f t i with
      | false => rfl
      | true =>
        have : i ∈ f.code.filter (shows f t) := List.mem_filter.2 ⟨hi, hh⟩
        unfold cnt at h0
        rw [List.eq_nil_of_length_eq_zero h0] at this
        cases this
    obtain ⟨at', h⟩ := lg_none ht hs f.code 0 ⟨[], f.secret⟩ [] rfl (by omega) rfl hno
    unfold legal legalOf
    rw [h]
    dsimp only
    rw [if_neg (by simp), List.nil_append, if_neg (by have := hr.len2; omega), if_neg ?_]
    intro hany
    obtain ⟨i, hi, h2⟩ := List.any_eq_true.1 hany
    obtain ⟨k, hk, rfl⟩ := List.getElem_of_mem hi
    simp only [Bool.and_eq_true] at h2
    have h3 := hno _ hi
    rw [shows_pre (hs k _ (List.getElem?_eq_getElem hk)) ht (s := []) (by simp), h3] at h2
    exact absurd h2.2 (by simp)
  · unfold legal legalOf
    rw [hw.1 hn, if_pos (by decide)]
  · have h1 := hw.2 hn
    have h2 := lg_clean ht hp hs f.code 0 ⟨[], f.secret⟩ [] rfl (by omega) ⟨[], by simp⟩ (fun x hx => by simp at hx) h1.1
    unfold legal legalOf
    generalize lgFrom t f.code ⟨[], f.secret⟩ [] = X at *
    rw [if_neg (by simp [h1.1]), if_neg (by omega), if_neg ?_]
    intro hany
    obtain ⟨i, hi, h3⟩ := List.any_eq_true.1 hany
    simp only [Bool.and_eq_true, decide_eq_true_eq] at h3
    have h4 := (h2 i hi h3.1).2
    unfold mkShows Mk.flat at h3 h4
    have e : shows ⟨X.2.2.code, X.2.2.secret, 0, []⟩ t i = shows ⟨[], X.2.2.secret, 0, []⟩ t i := rfl
    rw [e, h4] at h3
    cases h3.2
end Ev
