import Derived.Test.YtljcgcllhcdleaaMt6
import Derived.Test.YtljcgcllhcdleaaMt2
/- The run's equations, step by step. -/
namespace Ev
theorem step_two {i : Instr} {k : Nat} {s : St} (h : i.op ≤ 12) : step i k s = ({ s with v := s.v.set i.d.toNat (two i.op (val s.v i.a) (val s.v i.b)) }, some (k + 1)) := by
  unfold step; rw [if_pos h]
theorem step_sel {i : Instr} {k : Nat} {s : St} (h : i.op = 13) : step i k s = ({ s with v := s.v.set i.d.toNat (sel (val s.v i.a) (val s.v i.b) (val s.v i.c)) }, some (k + 1)) := by
  unfold step; rw [if_neg (by omega), if_pos h]
theorem step_const {i : Instr} {k : Nat} {s : St} (h : i.op = 14) : step i k s = ({ s with v := s.v.set i.d.toNat i.imm }, some (k + 1)) := by
  unfold step; rw [if_neg (by omega), if_neg (by omega), if_pos h]
theorem step_move {i : Instr} {k : Nat} {s : St} (h : i.op = 15) : step i k s = ({ s with v := s.v.set i.d.toNat (val s.v i.a) }, some (k + 1)) := by
  unfold step; rw [if_neg (by omega), if_neg (by omega), if_neg (by omega), if_pos h]
theorem step_load {i : Instr} {k : Nat} {s : St} (h : i.op = 16) : step i k s = ({ s with v := s.v.set i.d.toNat (arrAt s.arrs i.b (val s.v i.a)) }, some (k + 1)) := by
  unfold step; rw [if_neg (by omega), if_neg (by omega), if_neg (by omega), if_neg (by omega), if_pos h]
theorem step_store_in {i : Instr} {k : Nat} {s : St} (h : i.op = 17) {a : List Int} (ha : s.arrs[i.b.toNat]? = some a) (hn : val s.v i.a < a.length) :
    step i k s = ({ s with arrs := s.arrs.set i.b.toNat (a.set (val s.v i.a).toNat (val s.v i.d)) }, some (k + 1)) := by
  have e : s.arrs.getD i.b.toNat [] = a := by rw [List.getD_eq_getElem?_getD, ha]; rfl
  unfold step; rw [if_neg (by omega), if_neg (by omega), if_neg (by omega), if_neg (by omega), if_neg (by omega), if_pos h, e, if_pos hn]
theorem step_store_out {i : Instr} {k : Nat} {s : St} (h : i.op = 17) {a : List Int} (ha : s.arrs[i.b.toNat]? = some a) (hn : ¬ val s.v i.a < a.length) : step i k s = (s, some (k + 1)) := by
  have e : s.arrs.getD i.b.toNat [] = a := by rw [List.getD_eq_getElem?_getD, ha]; rfl
  unfold step; rw [if_neg (by omega), if_neg (by omega), if_neg (by omega), if_neg (by omega), if_neg (by omega), if_pos h, e, if_neg hn]
theorem step_jump {i : Instr} {k : Nat} {s : St} (h : i.op = 18) : step i k s = (s, some i.imm.toNat) := by
  unfold step; rw [if_neg (by omega), if_neg (by omega), if_neg (by omega), if_neg (by omega), if_neg (by omega), if_neg (by omega), if_pos h]
theorem step_zero_yes {i : Instr} {k : Nat} {s : St} (h : i.op = 19) (h0 : val s.v i.a = 0) : step i k s = (s, some i.imm.toNat) := by
  unfold step; rw [if_neg (by omega), if_neg (by omega), if_neg (by omega), if_neg (by omega), if_neg (by omega), if_neg (by omega), if_neg (by omega), if_pos h, if_pos h0]
theorem step_zero_no {i : Instr} {k : Nat} {s : St} (h : i.op = 19) (h0 : ¬ val s.v i.a = 0) : step i k s = (s, some (k + 1)) := by
  unfold step; rw [if_neg (by omega), if_neg (by omega), if_neg (by omega), if_neg (by omega), if_neg (by omega), if_neg (by omega), if_neg (by omega), if_pos h, if_neg h0]
theorem step_end {i : Instr} {k : Nat} {s : St} (h : i.op = 20 ∨ i.op = 21) : step i k s = (s, none) := by
  unfold step; rw [if_neg (by omega), if_neg (by omega), if_neg (by omega), if_neg (by omega), if_neg (by omega), if_neg (by omega), if_neg (by omega), if_neg (by omega), if_pos h]
theorem runFrom_on {c : List Instr} {t : List Int} {n k k' : Nat} {i : Instr} {s s' : St} (hi : c[k]? = some i) (h : step i k s = (s', some k')) :
    runFrom c t (n + 1) k s = ((runFrom c t n k' s').1, leak t i k s false :: (runFrom c t n k' s').2) := by
  have e : c.getD k default = i := by rw [List.getD_eq_getElem?_getD, hi]; rfl
  rw [runFrom]
  simp only [e, h]
theorem runFrom_end {c : List Instr} {t : List Int} {n k : Nat} {i : Instr} {s s' : St} (hi : c[k]? = some i) (h : step i k s = (s', none)) :
    runFrom c t (n + 1) k s = (endOf i s', [leak t i k s false]) := by
  have e : c.getD k default = i := by rw [List.getD_eq_getElem?_getD, hi]; rfl
  rw [runFrom]
  simp only [e, h]
/-- the round's plain part -/
theorem round_on {f : Flat} (hr : Right f) {t : List Int} {n k k' : Nat} {i : Instr} {s s' : St} {R : Ended × List Leak} {lk : List Leak} (hi : f.code[k]? = some i) (hF : Fine f s)
    (h1 : (runFrom f.code t (n + 1) k s).1 = R.1) (h2 : lk ++ (runFrom f.code t (n + 1) k s).2 = R.2) (h : step i k s = (s', some k')) :
    (runFrom f.code t n k' s').1 = R.1 ∧ (lk ++ [leak t i k s false]) ++ (runFrom f.code t n k' s').2 = R.2 ∧ Fine f s' ∧ k < k' ∧ k' < f.code.length := by
  rw [runFrom_on hi h] at h1 h2
  have hs := hF.step (hr.sound hi)
  rw [h] at hs
  have ho := step_on hr (s := s) (k' := k') hi (by rw [h])
  exact ⟨h1, by rw [← h2]; simp, hs, ho.1, ho.2⟩
theorem round_end {f : Flat} {t : List Int} {n k : Nat} {i : Instr} {s : St} {R : Ended × List Leak} {lk : List Leak} (hi : f.code[k]? = some i)
    (h1 : (runFrom f.code t (n + 1) k s).1 = R.1) (h2 : lk ++ (runFrom f.code t (n + 1) k s).2 = R.2) (h : i.op = 20 ∨ i.op = 21) : R.1 = endOf i s ∧ R.2 = lk ++ [leak t i k s false] := by
  rw [runFrom_end hi (step_end h)] at h1 h2
  exact ⟨h1.symm, h2.symm⟩
theorem start_fine {f : Flat} {g : Given} (h1 : g.words.length ≤ f.secret.length) (h2 : ∀ x ∈ g.words, Wd x) (h3 : g.arrays.length = f.arrays.length) (h4 : ∀ a ∈ g.arrays, ∀ x ∈ a, Wd x) : Fine f (start f.secret.length g) := by
  refine ⟨by unfold start; simp; omega, fun x hx => ?_, h3, h4⟩
  unfold start at hx
  have := List.mem_of_mem_take hx
  rcases List.mem_append.1 this with h | h
  · exact h2 x h
  · rw [List.mem_replicate] at h
    rw [h.2]
    exact ⟨by decide, by decide⟩
end Ev
/- Chapter 11, plain: what an image's instructions do, of the machine's places, arrays and mode. -/
namespace Ev
/-- the machine, but for its arrays' and leaks' rows -/
structure Mc where
  s : St
  pc : Nat
  wd : Int
  tr : Bool
  st : Nat
/-- an instruction that may be done with so many arrays -/
structure Ok (na : Nat) (i : Instr) : Prop where
  op : 1 ≤ i.op ∧ i.op ≤ 23
  reads : ∀ p ∈ reads i, 0 ≤ p ∧ p < 120
  d : 0 ≤ i.d ∧ i.d < 120
  back : i.op = 23 → 0 ≤ i.a ∧ i.a < 120
  arr : i.op = 16 ∨ i.op = 17 → 0 ≤ i.b ∧ i.b < (na : Int)
  imm : 0 ≤ i.imm ∧ i.imm ≤ 4294967295
structure FineM (na : Nat) (s : St) : Prop where
  len : s.v.length = 120
  vals : ∀ x ∈ s.v, Wd x
  alen : s.arrs.length = na
  arrs : ∀ a ∈ s.arrs, ∀ x ∈ a, Wd x
  mode : s.mode = 0 ∨ s.mode = 1
theorem FineM.val {na : Nat} {s : St} (h : FineM na s) (p : Int) : Wd (val s.v p) := by
  unfold Ev.val
  rw [List.getD_eq_getElem?_getD]
  rcases Nat.lt_or_ge p.toNat s.v.length with hp | hp
  · rw [List.getElem?_eq_getElem hp]
    exact h.vals _ (List.getElem_mem hp)
  · rw [List.getElem?_eq_none hp]
    exact ⟨by decide, by decide⟩
theorem FineM.arr {na : Nat} {s : St} (h : FineM na s) (b n : Int) : Wd (arrAt s.arrs b n) := by
  unfold arrAt
  split
  · unfold Ev.val
    rw [List.getD_eq_getElem?_getD]
    rcases Nat.lt_or_ge n.toNat (s.arrs.getD b.toNat []).length with hp | hp
    · rw [List.getElem?_eq_getElem hp]
      rcases Nat.lt_or_ge b.toNat s.arrs.length with hb | hb
      · have e : s.arrs.getD b.toNat [] = s.arrs[b.toNat] := by rw [List.getD_eq_getElem?_getD, List.getElem?_eq_getElem hb]; rfl
        exact h.arrs (s.arrs.getD b.toNat []) (by rw [e]; exact List.getElem_mem hb) _ (List.getElem_mem hp)
      · have e : s.arrs.getD b.toNat [] = [] := by rw [List.getD_eq_getElem?_getD, List.getElem?_eq_none hb]; rfl
        rw [e] at hp
        simp at hp
    · rw [List.getElem?_eq_none hp]
      exact ⟨by decide, by decide⟩
  · exact ⟨by decide, by decide⟩
theorem FineM.set {na : Nat} {s : St} (h : FineM na s) (k : Nat) {x : Int} (hx : Wd x) : FineM na { s with v := s.v.set k x } :=
  ⟨by simpa using h.len, fun y hy => (List.mem_or_eq_of_mem_set hy).elim (h.vals y) (fun e => e ▸ hx), h.alen, h.arrs, h.mode⟩
theorem step_on2 {i : Instr} {k : Nat} {s : St} (h : i.op = 22) : step i k s = ({ s with v := s.v.set i.d.toNat s.mode, mode := 1 }, some (k + 1)) := by
  unfold step; rw [if_neg (by omega), if_neg (by omega), if_neg (by omega), if_neg (by omega), if_neg (by omega), if_neg (by omega), if_neg (by omega), if_neg (by omega), if_neg (by omega), if_pos h]
theorem step_back {i : Instr} {k : Nat} {s : St} (h : i.op = 23) : step i k s = ({ s with mode := val s.v i.a % 2 }, some (k + 1)) := by
  unfold step; rw [if_neg (by omega), if_neg (by omega), if_neg (by omega), if_neg (by omega), if_neg (by omega), if_neg (by omega), if_neg (by omega), if_neg (by omega), if_neg (by omega), if_neg (by omega), if_pos h]
theorem FineM.step {na : Nat} {i : Instr} {k : Nat} {s : St} (h : FineM na s) (hi : Ok na i) : FineM na (step i k s).1 := by
  have hop := hi.op
  have hm : Wd s.mode := by rcases h.mode with e | e <;> rw [e] <;> exact ⟨by decide, by decide⟩
  rcases (show i.op ≤ 12 ∨ i.op = 13 ∨ i.op = 14 ∨ i.op = 15 ∨ i.op = 16 ∨ i.op = 17 ∨ i.op = 18 ∨ i.op = 19 ∨ (i.op = 20 ∨ i.op = 21) ∨ i.op = 22 ∨ i.op = 23 by omega) with e | e | e | e | e | e | e | e | e | e | e
  · rw [step_two e]; exact h.set _ (two_wd _ _ _)
  · rw [step_sel e]; exact h.set _ (sel_wd _ _ _)
  · rw [step_const e]; exact h.set _ hi.imm
  · rw [step_move e]; exact h.set _ (h.val _)
  · rw [step_load e]; exact h.set _ (h.arr _ _)
  · unfold Ev.step
    rw [if_neg (by omega), if_neg (by omega), if_neg (by omega), if_neg (by omega), if_neg (by omega), if_pos e]
    dsimp only
    split
    · refine ⟨h.len, h.vals, by simpa using h.alen, fun a ha x hx => ?_, h.mode⟩
      rcases List.mem_or_eq_of_mem_set ha with ha | rfl
      · exact h.arrs a ha x hx
      · rcases List.mem_or_eq_of_mem_set hx with hx | rfl
        · have hb := hi.arr (.inr e)
          have hlt : i.b.toNat < s.arrs.length := by have := h.alen; omega
          rw [List.getD_eq_getElem?_getD, List.getElem?_eq_getElem hlt] at hx
          exact h.arrs _ (List.getElem_mem hlt) x hx
        · exact h.val _
    · exact h
  · rw [step_jump e]; exact h
  · by_cases h0 : Ev.val s.v i.a = 0
    · rw [step_zero_yes e h0]; exact h
    · rw [step_zero_no e h0]; exact h
  · rw [step_end e]; exact h
  · rw [step_on2 e]
    have := h.set i.d.toNat hm
    exact ⟨this.len, this.vals, this.alen, this.arrs, .inr rfl⟩
  · rw [step_back e]
    exact ⟨h.len, h.vals, h.alen, h.arrs, by show Ev.val s.v i.a % 2 = 0 ∨ Ev.val s.v i.a % 2 = 1; omega⟩
/-- one instruction of the machine; true: it has ended -/
def mcStep (i : Instr) (m : Mc) : Mc × Bool :=
  match step i m.pc m.s with
  | (_, none) => if i.op = 21 then ({ m with pc := m.pc + 1, tr := true }, true) else ({ m with pc := m.pc + 1, wd := val m.s.v i.a }, true)
  | (s', some k) => ({ m with s := s', pc := k }, false)
end Ev
/- Chapter 10: an instruction's bytes, and eight bytes' instruction. -/
namespace Ev
/-- four bytes, the uppermost one first -/
def be (n : Int) : List Int := [n / 16777216, n / 65536 % 256, n / 256 % 256, n % 256]
def isByte (n : Int) : Bool := decide (0 ≤ n) && decide (n ≤ 255)
def bytesErr (i : Instr) : Int :=
  if ¬ ((0 ≤ i.op ∧ i.op ≤ 255) ∧ (0 ≤ i.d ∧ i.d ≤ 255) ∧ (0 ≤ i.a ∧ i.a ≤ 255) ∧ (0 ≤ i.b ∧ i.b ≤ 255) ∧ (0 ≤ i.c ∧ i.c ≤ 255)) then 3
  else if i.op < 1 ∨ 23 < i.op then 1
  else if i.imm < 0 ∨ 4294967295 < i.imm then 3
  else if (i.op = 13 ∧ i.imm ≠ 0) ∨ (i.op ≠ 13 ∧ i.c ≠ 0) then 2
  else 0
theorem be3 {i : Instr} (h : ¬ ((0 ≤ i.op ∧ i.op ≤ 255) ∧ (0 ≤ i.d ∧ i.d ≤ 255) ∧ (0 ≤ i.a ∧ i.a ≤ 255) ∧ (0 ≤ i.b ∧ i.b ≤ 255) ∧ (0 ≤ i.c ∧ i.c ≤ 255))) : bytesErr i = 3 := by
  unfold bytesErr; rw [if_pos h]
theorem be1 {i : Instr} (h : (0 ≤ i.op ∧ i.op ≤ 255) ∧ (0 ≤ i.d ∧ i.d ≤ 255) ∧ (0 ≤ i.a ∧ i.a ≤ 255) ∧ (0 ≤ i.b ∧ i.b ≤ 255) ∧ (0 ≤ i.c ∧ i.c ≤ 255)) (h2 : i.op < 1 ∨ 23 < i.op) : bytesErr i = 1 := by
  unfold bytesErr; rw [if_neg (fun k => k h), if_pos h2]
theorem be33 {i : Instr} (h : (0 ≤ i.op ∧ i.op ≤ 255) ∧ (0 ≤ i.d ∧ i.d ≤ 255) ∧ (0 ≤ i.a ∧ i.a ≤ 255) ∧ (0 ≤ i.b ∧ i.b ≤ 255) ∧ (0 ≤ i.c ∧ i.c ≤ 255)) (h2 : ¬ (i.op < 1 ∨ 23 < i.op)) (h3 : i.imm < 0 ∨ 4294967295 < i.imm) : bytesErr i = 3 := by
  unfold bytesErr; rw [if_neg (fun k => k h), if_neg h2, if_pos h3]
theorem be2 {i : Instr} (h : (0 ≤ i.op ∧ i.op ≤ 255) ∧ (0 ≤ i.d ∧ i.d ≤ 255) ∧ (0 ≤ i.a ∧ i.a ≤ 255) ∧ (0 ≤ i.b ∧ i.b ≤ 255) ∧ (0 ≤ i.c ∧ i.c ≤ 255)) (h2 : ¬ (i.op < 1 ∨ 23 < i.op)) (h3 : ¬ (i.imm < 0 ∨ 4294967295 < i.imm))
    (h4 : (i.op = 13 ∧ i.imm ≠ 0) ∨ (i.op ≠ 13 ∧ i.c ≠ 0)) : bytesErr i = 2 := by
  unfold bytesErr; rw [if_neg (fun k => k h), if_neg h2, if_neg h3, if_pos h4]
theorem be0 {i : Instr} (h : (0 ≤ i.op ∧ i.op ≤ 255) ∧ (0 ≤ i.d ∧ i.d ≤ 255) ∧ (0 ≤ i.a ∧ i.a ≤ 255) ∧ (0 ≤ i.b ∧ i.b ≤ 255) ∧ (0 ≤ i.c ∧ i.c ≤ 255)) (h2 : ¬ (i.op < 1 ∨ 23 < i.op)) (h3 : ¬ (i.imm < 0 ∨ 4294967295 < i.imm))
    (h4 : ¬ ((i.op = 13 ∧ i.imm ≠ 0) ∨ (i.op ≠ 13 ∧ i.c ≠ 0))) : bytesErr i = 0 := by
  unfold bytesErr; rw [if_neg (fun k => k h), if_neg h2, if_neg h3, if_neg h4]
def bytesOf (i : Instr) : List Int := if bytesErr i = 0 then [i.op, i.d, i.a, i.b] ++ be (if i.op = 13 then i.c else i.imm) else []
theorem bytes_bad {i : Instr} (h : bytesErr i ≠ 0) : bytesOf i = [] := by unfold bytesOf; rw [if_neg h]
theorem bytes_sel {i : Instr} (h : bytesErr i = 0) (k : i.op = 13) : bytesOf i = [i.op, i.d, i.a, i.b, i.c / 16777216, i.c / 65536 % 256, i.c / 256 % 256, i.c % 256] := by
  unfold bytesOf; rw [if_pos h, if_pos k]; rfl
theorem bytes_imm {i : Instr} (h : bytesErr i = 0) (k : i.op ≠ 13) : bytesOf i = [i.op, i.d, i.a, i.b, i.imm / 16777216, i.imm / 65536 % 256, i.imm / 256 % 256, i.imm % 256] := by
  unfold bytesOf; rw [if_pos h, if_neg k]; rfl
def ofBe (b4 b5 b6 b7 : Int) : Int := b4 * 16777216 + b5 * 65536 + b6 * 256 + b7
def parseErr (b : List Int) : Int :=
  match b with
  | [b0, _, _, _, b4, b5, b6, b7] =>
    if b0 < 1 ∨ 23 < b0 then 1 else if b0 = 13 ∧ 255 < ofBe b4 b5 b6 b7 then 3 else 0
  | _ => 2
def parseOf (b : List Int) : Instr :=
  if parseErr b ≠ 0 then ⟨0, 0, 0, 0, 0, 0⟩ else
  match b with
  | [b0, b1, b2, b3, b4, b5, b6, b7] =>
    if b0 = 13 then ⟨b0, b1, b2, b3, ofBe b4 b5 b6 b7, 0⟩ else ⟨b0, b1, b2, b3, 0, ofBe b4 b5 b6 b7⟩
  | _ => ⟨0, 0, 0, 0, 0, 0⟩
end Ev
/- Chapter 11, plain: what an image's instructions are, and how it runs. -/
namespace Ev
def chunk (b : List Int) (k : Nat) : List Int := (b.drop (8 * k)).take 8
def placesOk (i : Instr) : Bool := (reads i).all (fun p => decide (p < 120)) && decide (i.d < 120) && (!(i.op == 23) || decide (i.a < 120))
def loadBad (na : Nat) (i : Instr) : Bool := !placesOk i || ((i.op == 16 || i.op == 17) && decide ((na : Int) ≤ i.b))
def loadOne (na : Nat) (c : List Int) : Int := if parseErr c ≠ 0 then parseErr c else if loadBad na (parseOf c) then 3 else 0
def loadErrFrom (b : List Int) (na : Nat) : Nat → Nat → Int
  | 0, _ => 0
  | n + 1, k => if loadOne na (chunk b k) ≠ 0 then loadOne na (chunk b k) else loadErrFrom b na n (k + 1)
def instrs (b : List Int) (n : Nat) : List Instr := (List.range n).map fun k => parseOf (chunk b k)
def loadErr (b : List Int) (na : Nat) : Int := if b.length = 0 ∨ b.length % 8 ≠ 0 then 2 else loadErrFrom b na (b.length / 8) 0
def load (b : List Int) (na : Nat) : List Instr := if loadErr b na ≠ 0 then [] else instrs b (b.length / 8)
def ranErr (e : Int) : Ran := { ended := { word := 0, trap := false, arrays := [] }, err := e, steps := 0, mode := 0, leaks := [] }
def ranOf (m : Mc) (lk : List Leak) : Ran := { ended := { word := m.wd, trap := m.tr, arrays := m.s.arrs }, err := 0, steps := m.st, mode := m.s.mode, leaks := lk }
def mcRun (l : List Instr) (t : List Int) (most : Int) : Nat → Mc → List Leak → Ran
  | 0, _, _ => ranErr 12
  | n + 1, m, lk =>
    if most ≤ m.st then ranErr 12
    else if l.length ≤ m.pc then ranErr 8
    else if (mcStep (l.getD m.pc default) { m with st := m.st + 1 }).2 then ranOf (mcStep (l.getD m.pc default) { m with st := m.st + 1 }).1 (lk ++ [leak t (l.getD m.pc default) m.pc m.s (m.s.mode == 0)])
    else mcRun l t most n (mcStep (l.getD m.pc default) { m with st := m.st + 1 }).1 (lk ++ [leak t (l.getD m.pc default) m.pc m.s (m.s.mode == 0)])
def start120 (g : Given) (mode : Int) : St := { v := (0 :: g.words ++ List.replicate (119 - g.words.length) 0).take 120, arrs := g.arrays, mode := mode }
def mc0 (g : Given) (mode : Int) : Mc := { s := start120 g mode, pc := 0, wd := 0, tr := false, st := 0 }
def runImage (b : List Int) (params : Int) (na : Nat) (t : List Int) (g : Given) (mode most : Int) : Ran :=
  if loadErr b na ≠ 0 then ranErr (loadErr b na)
  else if mode < 0 ∨ 1 < mode ∨ (g.words.length : Int) ≠ params ∨ 120 ≤ params ∨ g.arrays.length ≠ na then ranErr 5
  else mcRun (load b na) t most (most.toNat + 1) (mc0 g mode) []
end Ev
