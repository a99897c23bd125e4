import Derived.Test.YtljcgcllhcdleaaMo5
import Derived.Test.YtljcgcllhcdleaaMo1
import Derived.Test.YtljcgcllhcdleaaProg
import Derived.Maps.OwnOps
import Derived.Test.YtljcgcllhcdleaaMo2
import Derived.Deep.DeepCutAuto
/- The run's equations, step by step. -/
namespace Ev
theorem step_two {i : Instr} {k : Nat} {s : St} (h : i.op ≤ 12) : step i k s = ({ s with v := s.v.set i.d.toNat (two i.op (val s.v i.a) (val s.v i.b)) }, some (k + 1)) := by
  unfold step; rw [if_pos h]
theorem step_sel {i : Instr} {k : Nat} {s : St} (h : i.op = 13) : step i k s = ({ s with v := s.v.set i.d.toNat (sel (val s.v i.a) (val s.v i.b) (val s.v i.c)) }, some (k + 1)) := by
  unfold step; rw [if_neg (by omega), if_pos h]
theorem step_const {i : Instr} {k : Nat} {s : St} (h : i.op = 14) : step i k s = ({ s with v := s.v.set i.d.toNat i.imm }, some (k + 1)) := by
  unfold step; rw [if_neg (by omega), if_neg (by omega), if_pos h]
theorem step_move {i : Instr} {k : Nat} {s : St} (h : i.op = 15) : step i k s = ({ s with v := s.v.set i.d.toNat (val s.v i.a) }, some (k + 1)) := by
  unfold step; rw [if_neg (by omega), if_neg (by omega), if_neg (by omega), if_pos h]
theorem step_load {i : Instr} {k : Nat} {s : St} (h : i.op = 16) : step i k s = ({ s with v := s.v.set i.d.toNat (arrAt s.arrs i.b (val s.v i.a)) }, some (k + 1)) := by
  unfold step; rw [if_neg (by omega), if_neg (by omega), if_neg (by omega), if_neg (by omega), if_pos h]
theorem step_store_in {i : Instr} {k : Nat} {s : St} (h : i.op = 17) {a : List Int} (ha : s.arrs[i.b.toNat]? = some a) (hn : val s.v i.a < a.length) :
    step i k s = ({ s with arrs := s.arrs.set i.b.toNat (a.set (val s.v i.a).toNat (val s.v i.d)) }, some (k + 1)) := by
  have e : s.arrs.getD i.b.toNat [] = a := by rw [List.getD_eq_getElem?_getD, ha]; rfl
  unfold step; rw [if_neg (by omega), if_neg (by omega), if_neg (by omega), if_neg (by omega), if_neg (by omega), if_pos h, e, if_pos hn]
theorem step_store_out {i : Instr} {k : Nat} {s : St} (h : i.op = 17) {a : List Int} (ha : s.arrs[i.b.toNat]? = some a) (hn : ¬ val s.v i.a < a.length) : step i k s = (s, some (k + 1)) := by
  have e : s.arrs.getD i.b.toNat [] = a := by rw [List.getD_eq_getElem?_getD, ha]; rfl
  unfold step; rw [if_neg (by omega), if_neg (by omega), if_neg (by omega), if_neg (by omega), if_neg (by omega), if_pos h, e, if_neg hn]
theorem step_jump {i : Instr} {k : Nat} {s : St} (h : i.op = 18) : step i k s = (s, some i.imm.toNat) := by
  unfold step; rw [if_neg (by omega), if_neg (by omega), if_neg (by omega), if_neg (by omega), if_neg (by omega), if_neg (by omega), if_pos h]
theorem step_zero_yes {i : Instr} {k : Nat} {s : St} (h : i.op = 19) (h0 : val s.v i.a = 0) : step i k s = (s, some i.imm.toNat) := by
  unfold step; rw [if_neg (by omega), if_neg (by omega), if_neg (by omega), if_neg (by omega), if_neg (by omega), if_neg (by omega), if_neg (by omega), if_pos h, if_pos h0]
theorem step_zero_no {i : Instr} {k : Nat} {s : St} (h : i.op = 19) (h0 : ¬ val s.v i.a = 0) : step i k s = (s, some (k + 1)) := by
  unfold step; rw [if_neg (by omega), if_neg (by omega), if_neg (by omega), if_neg (by omega), if_neg (by omega), if_neg (by omega), if_neg (by omega), if_pos h, if_neg h0]
theorem step_end {i : Instr} {k : Nat} {s : St} (h : i.op = 20 ∨ i.op = 21) : step i k s = (s, none) := by
  unfold step; rw [if_neg (by omega), if_neg (by omega), if_neg (by omega), if_neg (by omega), if_neg (by omega), if_neg (by omega), if_neg (by omega), if_neg (by omega), if_pos h]
theorem runFrom_on {c : List Instr} {t : List Int} {n k k' : Nat} {i : Instr} {s s' : St} (hi : c[k]? = some i) (h : step i k s = (s', some k')) :
    runFrom c t (n + 1) k s = ((runFrom c t n k' s').1, leak t i k s false :: (runFrom c t n k' s').2) := by
  have e : c.getD k default = i := by rw [List.getD_eq_getElem?_getD, hi]; rfl
  rw [runFrom]
  simp only [e, h]
theorem runFrom_end {c : List Instr} {t : List Int} {n k : Nat} {i : Instr} {s s' : St} (hi : c[k]? = some i) (h : step i k s = (s', none)) :
    runFrom c t (n + 1) k s = (endOf i s', [leak t i k s false]) := by
  have e : c.getD k default = i := by rw [List.getD_eq_getElem?_getD, hi]; rfl
  rw [runFrom]
  simp only [e, h]
/-- the round's plain part -/
theorem round_on {f : Flat} (hr : Right f) {t : List Int} {n k k' : Nat} {i : Instr} {s s' : St} {R : Ended × List Leak} {lk : List Leak} (hi : f.code[k]? = some i) (hF : Fine f s)
    (h1 : (runFrom f.code t (n + 1) k s).1 = R.1) (h2 : lk ++ (runFrom f.code t (n + 1) k s).2 = R.2) (h : step i k s = (s', some k')) :
    (runFrom f.code t n k' s').1 = R.1 ∧ (lk ++ [leak t i k s false]) ++ (runFrom f.code t n k' s').2 = R.2 ∧ Fine f s' ∧ k < k' ∧ k' < f.code.length := by
  rw [runFrom_on hi h] at h1 h2
  have hs := hF.step (hr.sound hi)
  rw [h] at hs
  have ho := step_on hr (s := s) (k' := k') hi (by rw [h])
  exact ⟨h1, by rw [← h2]; simp, hs, ho.1, ho.2⟩
theorem round_end {f : Flat} {t : List Int} {n k : Nat} {i : Instr} {s : St} {R : Ended × List Leak} {lk : List Leak} (hi : f.code[k]? = some i)
    (h1 : (runFrom f.code t (n + 1) k s).1 = R.1) (h2 : lk ++ (runFrom f.code t (n + 1) k s).2 = R.2) (h : i.op = 20 ∨ i.op = 21) : R.1 = endOf i s ∧ R.2 = lk ++ [leak t i k s false] := by
  rw [runFrom_end hi (step_end h)] at h1 h2
  exact ⟨h1.symm, h2.symm⟩
theorem start_fine {f : Flat} {g : Given} (h1 : g.words.length ≤ f.secret.length) (h2 : ∀ x ∈ g.words, Wd x) (h3 : g.arrays.length = f.arrays.length) (h4 : ∀ a ∈ g.arrays, ∀ x ∈ a, Wd x) : Fine f (start f.secret.length g) := by
  refine ⟨by unfold start; simp; omega, fun x hx => ?_, h3, h4⟩
  unfold start at hx
  have := List.mem_of_mem_take hx
  rcases List.mem_append.1 this with h | h
  · exact h2 x h
  · rw [List.mem_replicate] at h
    rw [h.2]
    exact ⟨by decide, by decide⟩
end Ev
/- Chapter 11, plain: what an image's instructions do, of the machine's places, arrays and mode. -/
namespace Ev
/-- the machine, but for its arrays' and leaks' rows -/
structure Mc where
  s : St
  pc : Nat
  wd : Int
  tr : Bool
  st : Nat
/-- an instruction that may be done with so many arrays -/
structure Ok (na : Nat) (i : Instr) : Prop where
  op : 1 ≤ i.op ∧ i.op ≤ 23
  reads : ∀ p ∈ reads i, 0 ≤ p ∧ p < 120
  d : 0 ≤ i.d ∧ i.d < 120
  back : i.op = 23 → 0 ≤ i.a ∧ i.a < 120
  arr : i.op = 16 ∨ i.op = 17 → 0 ≤ i.b ∧ i.b < (na : Int)
  imm : 0 ≤ i.imm ∧ i.imm ≤ 4294967295
structure FineM (na : Nat) (s : St) : Prop where
  len : s.v.length = 120
  vals : ∀ x ∈ s.v, Wd x
  alen : s.arrs.length = na
  arrs : ∀ a ∈ s.arrs, ∀ x ∈ a, Wd x
  mode : s.mode = 0 ∨ s.mode = 1
theorem FineM.val {na : Nat} {s : St} (h : FineM na s) (p : Int) : Wd (val s.v p) := by
  unfold Ev.val
  rw [List.getD_eq_getElem?_getD]
  rcases Nat.lt_or_ge p.toNat s.v.length with hp | hp
  · rw [List.getElem?_eq_getElem hp]
    exact h.vals _ (List.getElem_mem hp)
  · rw [List.getElem?_eq_none hp]
    exact ⟨by decide, by decide⟩
theorem FineM.arr {na : Nat} {s : St} (h : FineM na s) (b n : Int) : Wd (arrAt s.arrs b n) := by
  unfold arrAt
  split
  · unfold Ev.val
    rw [List.getD_eq_getElem?_getD]
    rcases Nat.lt_or_ge n.toNat (s.arrs.getD b.toNat []).length with hp | hp
    · rw [List.getElem?_eq_getElem hp]
      rcases Nat.lt_or_ge b.toNat s.arrs.length with hb | hb
      · have e : s.arrs.getD b.toNat [] = s.arrs[b.toNat] := by rw [List.getD_eq_getElem?_getD, List.getElem?_eq_getElem hb]; rfl
        exact h.arrs (s.arrs.getD b.toNat []) (by rw [e]; exact List.getElem_mem hb) _ (List.getElem_mem hp)
      · have e : s.arrs.getD b.toNat [] = [] := by rw [List.getD_eq_getElem?_getD, List.getElem?_eq_none hb]; rfl
        rw [e] at hp
        simp at hp
    · rw [List.getElem?_eq_none hp]
      exact ⟨by decide, by decide⟩
  · exact ⟨by decide, by decide⟩
theorem FineM.set {na : Nat} {s : St} (h : FineM na s) (k : Nat) {x : Int} (hx : Wd x) : FineM na { s with v := s.v.set k x } :=
  ⟨by simpa using h.len, fun y hy => (List.mem_or_eq_of_mem_set hy).elim (h.vals y) (fun e => e ▸ hx), h.alen, h.arrs, h.mode⟩
theorem step_on2 {i : Instr} {k : Nat} {s : St} (h : i.op = 22) : step i k s = ({ s with v := s.v.set i.d.toNat s.mode, mode := 1 }, some (k + 1)) := by
  unfold step; rw [if_neg (by omega), if_neg (by omega), if_neg (by omega), if_neg (by omega), if_neg (by omega), if_neg (by omega), if_neg (by omega), if_neg (by omega), if_neg (by omega), if_pos h]
theorem step_back {i : Instr} {k : Nat} {s : St} (h : i.op = 23) : step i k s = ({ s with mode := val s.v i.a % 2 }, some (k + 1)) := by
  unfold step; rw [if_neg (by omega), if_neg (by omega), if_neg (by omega), if_neg (by omega), if_neg (by omega), if_neg (by omega), if_neg (by omega), if_neg (by omega), if_neg (by omega), if_neg (by omega), if_pos h]
theorem FineM.step {na : Nat} {i : Instr} {k : Nat} {s : St} (h : FineM na s) (hi : Ok na i) : FineM na (step i k s).1 := by
  have hop := hi.op
  have hm : Wd s.mode := by rcases h.mode with e | e <;> rw [e] <;> exact ⟨by decide, by decide⟩
  rcases (show i.op ≤ 12 ∨ i.op = 13 ∨ i.op = 14 ∨ i.op = 15 ∨ i.op = 16 ∨ i.op = 17 ∨ i.op = 18 ∨ i.op = 19 ∨ (i.op = 20 ∨ i.op = 21) ∨ i.op = 22 ∨ i.op = 23 by omega) with e | e | e | e | e | e | e | e | e | e | e
  · rw [step_two e]; exact h.set _ (two_wd _ _ _)
  · rw [step_sel e]; exact h.set _ (sel_wd _ _ _)
  · rw [step_const e]; exact h.set _ hi.imm
  · rw [step_move e]; exact h.set _ (h.val _)
  · rw [step_load e]; exact h.set _ (h.arr _ _)
  · unfold Ev.step
    rw [if_neg (by omega), if_neg (by omega), if_neg (by omega), if_neg (by omega), if_neg (by omega), if_pos e]
    dsimp only
    split
    · refine ⟨h.len, h.vals, by simpa using h.alen, fun a ha x hx => ?_, h.mode⟩
      rcases List.mem_or_eq_of_mem_set ha with ha | rfl
      · exact h.arrs a ha x hx
      · rcases List.mem_or_eq_of_mem_set hx with hx | rfl
        · have hb := hi.arr (.inr e)
          have hlt : i.b.toNat < s.arrs.length := by have := h.alen; omega
          rw [List.getD_eq_getElem?_getD, List.getElem?_eq_getElem hlt] at hx
          exact h.arrs _ (List.getElem_mem hlt) x hx
        · exact h.val _
    · exact h
  · rw [step_jump e]; exact h
  · by_cases h0 : Ev.val s.v i.a = 0
    · rw [step_zero_yes e h0]; exact h
    · rw [step_zero_no e h0]; exact h
  · rw [step_end e]; exact h
  · rw [step_on2 e]
    have := h.set i.d.toNat hm
    exact ⟨this.len, this.vals, this.alen, this.arrs, .inr rfl⟩
  · rw [step_back e]
    exact ⟨h.len, h.vals, h.alen, h.arrs, by show Ev.val s.v i.a % 2 = 0 ∨ Ev.val s.v i.a % 2 = 1; omega⟩
/-- one instruction of the machine; true: it has ended -/
def mcStep (i : Instr) (m : Mc) : Mc × Bool :=
  match step i m.pc m.s with
  | (_, none) => if i.op = 21 then ({ m with pc := m.pc + 1, tr := true }, true) else ({ m with pc := m.pc + 1, wd := val m.s.v i.a }, true)
  | (s', some k) => ({ m with s := s', pc := k }, false)
end Ev
/- Chapter 10: an instruction's bytes, and eight bytes' instruction. -/
namespace Ev
/-- four bytes, the uppermost one first -/
def be (n : Int) : List Int := [n / 16777216, n / 65536 % 256, n / 256 % 256, n % 256]
def isByte (n : Int) : Bool := decide (0 ≤ n) && decide (n ≤ 255)
def bytesErr (i : Instr) : Int :=
  if ¬ ((0 ≤ i.op ∧ i.op ≤ 255) ∧ (0 ≤ i.d ∧ i.d ≤ 255) ∧ (0 ≤ i.a ∧ i.a ≤ 255) ∧ (0 ≤ i.b ∧ i.b ≤ 255) ∧ (0 ≤ i.c ∧ i.c ≤ 255)) then 3
  else if i.op < 1 ∨ 23 < i.op then 1
  else if i.imm < 0 ∨ 4294967295 < i.imm then 3
  else if (i.op = 13 ∧ i.imm ≠ 0) ∨ (i.op ≠ 13 ∧ i.c ≠ 0) then 2
  else 0
theorem be3 {i : Instr} (h : ¬ ((0 ≤ i.op ∧ i.op ≤ 255) ∧ (0 ≤ i.d ∧ i.d ≤ 255) ∧ (0 ≤ i.a ∧ i.a ≤ 255) ∧ (0 ≤ i.b ∧ i.b ≤ 255) ∧ (0 ≤ i.c ∧ i.c ≤ 255))) : bytesErr i = 3 := by
  unfold bytesErr; rw [if_pos h]
theorem be1 {i : Instr} (h : (0 ≤ i.op ∧ i.op ≤ 255) ∧ (0 ≤ i.d ∧ i.d ≤ 255) ∧ (0 ≤ i.a ∧ i.a ≤ 255) ∧ (0 ≤ i.b ∧ i.b ≤ 255) ∧ (0 ≤ i.c ∧ i.c ≤ 255)) (h2 : i.op < 1 ∨ 23 < i.op) : bytesErr i = 1 := by
  unfold bytesErr; rw [if_neg (fun k => k h), if_pos h2]
theorem be33 {i : Instr} (h : (0 ≤ i.op ∧ i.op ≤ 255) ∧ (0 ≤ i.d ∧ i.d ≤ 255) ∧ (0 ≤ i.a ∧ i.a ≤ 255) ∧ (0 ≤ i.b ∧ i.b ≤ 255) ∧ (0 ≤ i.c ∧ i.c ≤ 255)) (h2 : ¬ (i.op < 1 ∨ 23 < i.op)) (h3 : i.imm < 0 ∨ 4294967295 < i.imm) : bytesErr i = 3 := by
  unfold bytesErr; rw [if_neg (fun k => k h), if_neg h2, if_pos h3]
theorem be2 {i : Instr} (h : (0 ≤ i.op ∧ i.op ≤ 255) ∧ (0 ≤ i.d ∧ i.d ≤ 255) ∧ (0 ≤ i.a ∧ i.a ≤ 255) ∧ (0 ≤ i.b ∧ i.b ≤ 255) ∧ (0 ≤ i.c ∧ i.c ≤ 255)) (h2 : ¬ (i.op < 1 ∨ 23 < i.op)) (h3 : ¬ (i.imm < 0 ∨ 4294967295 < i.imm))
    (h4 : (i.op = 13 ∧ i.imm ≠ 0) ∨ (i.op ≠ 13 ∧ i.c ≠ 0)) : bytesErr i = 2 := by
  unfold bytesErr; rw [if_neg (fun k => k h), if_neg h2, if_neg h3, if_pos h4]
theorem be0 {i : Instr} (h : (0 ≤ i.op ∧ i.op ≤ 255) ∧ (0 ≤ i.d ∧ i.d ≤ 255) ∧ (0 ≤ i.a ∧ i.a ≤ 255) ∧ (0 ≤ i.b ∧ i.b ≤ 255) ∧ (0 ≤ i.c ∧ i.c ≤ 255)) (h2 : ¬ (i.op < 1 ∨ 23 < i.op)) (h3 : ¬ (i.imm < 0 ∨ 4294967295 < i.imm))
    (h4 : ¬ ((i.op = 13 ∧ i.imm ≠ 0) ∨ (i.op ≠ 13 ∧ i.c ≠ 0))) : bytesErr i = 0 := by
  unfold bytesErr; rw [if_neg (fun k => k h), if_neg h2, if_neg h3, if_neg h4]
def bytesOf (i : Instr) : List Int := if bytesErr i = 0 then [i.op, i.d, i.a, i.b] ++ be (if i.op = 13 then i.c else i.imm) else []
theorem bytes_bad {i : Instr} (h : bytesErr i ≠ 0) : bytesOf i = [] := by unfold bytesOf; rw [if_neg h]
theorem bytes_sel {i : Instr} (h : bytesErr i = 0) (k : i.op = 13) : bytesOf i = [i.op, i.d, i.a, i.b, i.c / 16777216, i.c / 65536 % 256, i.c / 256 % 256, i.c % 256] := by
  unfold bytesOf; rw [if_pos h, if_pos k]; rfl
theorem bytes_imm {i : Instr} (h : bytesErr i = 0) (k : i.op ≠ 13) : bytesOf i = [i.op, i.d, i.a, i.b, i.imm / 16777216, i.imm / 65536 % 256, i.imm / 256 % 256, i.imm % 256] := by
  unfold bytesOf; rw [if_pos h, if_neg k]; rfl
def ofBe (b4 b5 b6 b7 : Int) : Int := b4 * 16777216 + b5 * 65536 + b6 * 256 + b7
def parseErr (b : List Int) : Int :=
  match b with
  | [b0, _, _, _, b4, b5, b6, b7] =>
    if b0 < 1 ∨ 23 < b0 then 1 else if b0 = 13 ∧ 255 < ofBe b4 b5 b6 b7 then 3 else 0
  | _ => 2
def parseOf (b : List Int) : Instr :=
  if parseErr b ≠ 0 then ⟨0, 0, 0, 0, 0, 0⟩ else
  match b with
  | [b0, b1, b2, b3, b4, b5, b6, b7] =>
    if b0 = 13 then ⟨b0, b1, b2, b3, ofBe b4 b5 b6 b7, 0⟩ else ⟨b0, b1, b2, b3, 0, ofBe b4 b5 b6 b7⟩
  | _ => ⟨0, 0, 0, 0, 0, 0⟩
end Ev
/- Chapter 11, plain: what an image's instructions are, and how it runs. -/
namespace Ev
def chunk (b : List Int) (k : Nat) : List Int := (b.drop (8 * k)).take 8
def placesOk (i : Instr) : Bool := (reads i).all (fun p => decide (p < 120)) && decide (i.d < 120) && (!(i.op == 23) || decide (i.a < 120))
def loadBad (na : Nat) (i : Instr) : Bool := !placesOk i || ((i.op == 16 || i.op == 17) && decide ((na : Int) ≤ i.b))
def loadOne (na : Nat) (c : List Int) : Int := if parseErr c ≠ 0 then parseErr c else if loadBad na (parseOf c) then 3 else 0
def loadErrFrom (b : List Int) (na : Nat) : Nat → Nat → Int
  | 0, _ => 0
  | n + 1, k => if loadOne na (chunk b k) ≠ 0 then loadOne na (chunk b k) else loadErrFrom b na n (k + 1)
def instrs (b : List Int) (n : Nat) : List Instr := (List.range n).map fun k => parseOf (chunk b k)
def loadErr (b : List Int) (na : Nat) : Int := if b.length = 0 ∨ b.length % 8 ≠ 0 then 2 else loadErrFrom b na (b.length / 8) 0
def load (b : List Int) (na : Nat) : List Instr := if loadErr b na ≠ 0 then [] else instrs b (b.length / 8)
def ranErr (e : Int) : Ran := { ended := { word := 0, trap := false, arrays := [] }, err := e, steps := 0, mode := 0, leaks := [] }
def ranOf (m : Mc) (lk : List Leak) : Ran := { ended := { word := m.wd, trap := m.tr, arrays := m.s.arrs }, err := 0, steps := m.st, mode := m.s.mode, leaks := lk }
def mcRun (l : List Instr) (t : List Int) (most : Int) : Nat → Mc → List Leak → Ran
  | 0, _, _ => ranErr 12
  | n + 1, m, lk =>
    if most ≤ m.st then ranErr 12
    else if l.length ≤ m.pc then ranErr 8
    else if (mcStep (l.getD m.pc default) { m with st := m.st + 1 }).2 then ranOf (mcStep (l.getD m.pc default) { m with st := m.st + 1 }).1 (lk ++ [leak t (l.getD m.pc default) m.pc m.s (m.s.mode == 0)])
    else mcRun l t most n (mcStep (l.getD m.pc default) { m with st := m.st + 1 }).1 (lk ++ [leak t (l.getD m.pc default) m.pc m.s (m.s.mode == 0)])
def start120 (g : Given) (mode : Int) : St := { v := (0 :: g.words ++ List.replicate (119 - g.words.length) 0).take 120, arrs := g.arrays, mode := mode }
def mc0 (g : Given) (mode : Int) : Mc := { s := start120 g mode, pc := 0, wd := 0, tr := false, st := 0 }
def runImage (b : List Int) (params : Int) (na : Nat) (t : List Int) (g : Given) (mode most : Int) : Ran :=
  if loadErr b na ≠ 0 then ranErr (loadErr b na)
  else if mode < 0 ∨ 1 < mode ∨ (g.words.length : Int) ≠ params ∨ 120 ≤ params ∨ g.arrays.length ≠ na then ranErr 5
  else mcRun (load b na) t most (most.toNat + 1) (mc0 g mode) []
end Ev
/- Chapter 11, plain: loading, chunk by chunk; what a loaded instruction is. -/
namespace Ev
theorem chunk_len {b : List Int} {j : Nat} (h : 8 * j + 8 ≤ b.length) : (chunk b j).length = 8 := by
  unfold chunk; simp; omega
theorem chunk_mem {b : List Int} {j : Nat} {x : Int} (h : x ∈ chunk b j) : x ∈ b := List.mem_of_mem_drop (List.mem_of_mem_take h)
theorem instrs_snoc (b : List Int) (j : Nat) : instrs b (j + 1) = instrs b j ++ [parseOf (chunk b j)] := by
  unfold instrs; rw [List.range_succ, List.map_append]; rfl
theorem instrs_len (b : List Int) (j : Nat) : (instrs b j).length = j := by unfold instrs; simp
theorem errFrom_on {b : List Int} {na n k : Nat} (h : loadOne na (chunk b k) = 0) : loadErrFrom b na (n + 1) k = loadErrFrom b na n (k + 1) := by
  rw [loadErrFrom, if_neg (by omega)]
theorem errFrom_stop {b : List Int} {na n k : Nat} {e : Int} (h : loadOne na (chunk b k) = e) (he : e ≠ 0) : loadErrFrom b na (n + 1) k = e := by
  rw [loadErrFrom, if_pos (by omega), h]
theorem one_err {na : Nat} {c : List Int} (h : parseErr c ≠ 0) : loadOne na c = parseErr c := by unfold loadOne; rw [if_pos h]
theorem one_bad {na : Nat} {c : List Int} (h : parseErr c = 0) (hb : loadBad na (parseOf c) = true) : loadOne na c = 3 := by unfold loadOne; rw [if_neg (by omega), if_pos hb]
theorem one_ok {na : Nat} {c : List Int} (h : parseErr c = 0) (hb : loadBad na (parseOf c) = false) : loadOne na c = 0 := by unfold loadOne; rw [if_neg (by omega), if_neg (by simp [hb])]
theorem readsM_le (i : Instr) : (reads i).length ≤ 3 := by
  unfold reads
  split
  · simp
  split
  · simp
  split
  · simp
  split
  · simp
  · simp
/-- what the program looks at -/
def lookedM (i : Instr) : List Int := reads i ++ [i.d] ++ (if i.op = 23 then [i.a] else [])
theorem lookedM_ok (i : Instr) : placesOk i = (lookedM i).all (fun p => decide (p < 120)) := by
  unfold placesOk lookedM
  by_cases h : i.op = 23
  · simp [h, Bool.and_assoc]
  · simp [h]
theorem lookedM_bad {na : Nat} {i : Instr} {p : Int} (hp : p ∈ lookedM i) (h : 120 ≤ p) : loadBad na i = true := by
  have : placesOk i = false := by
    rw [lookedM_ok, Bool.eq_false_iff]
    intro hh
    have := List.all_eq_true.1 hh p hp
    simp at this
    omega
  unfold loadBad
  rw [this]; rfl
theorem lookedM_good {i : Instr} (h : ∀ p ∈ lookedM i, p < 120) : placesOk i = true := by
  rw [lookedM_ok, List.all_eq_true]
  intro p hp
  simpa using h p hp
theorem bad_arr {na : Nat} {i : Instr} (h : i.op = 16 ∨ i.op = 17) (hb : (na : Int) ≤ i.b) : loadBad na i = true := by
  unfold loadBad
  rcases h with h | h <;> simp [h, hb]
theorem good_arr {na : Nat} {i : Instr} (hp : placesOk i = true) (h : i.op = 16 ∨ i.op = 17 → i.b < (na : Int)) : loadBad na i = false := by
  unfold loadBad
  rw [hp]
  by_cases h1 : i.op = 16 ∨ i.op = 17
  · have := h h1
    simp
    intro _
    omega
  · have h2 : i.op ≠ 16 ∧ i.op ≠ 17 := by omega
    simp [h2.1, h2.2]
/-- the bytes of an image -/
def Byt (b : List Int) : Prop := ∀ x ∈ b, 0 ≤ x ∧ x ≤ 255
theorem parse_facts {c : List Int} (hb : Byt c) (h : parseErr c = 0) : (1 ≤ (parseOf c).op ∧ (parseOf c).op ≤ 23) ∧ (0 ≤ (parseOf c).d) ∧ (0 ≤ (parseOf c).a) ∧ (0 ≤ (parseOf c).b) ∧ (0 ≤ (parseOf c).c) ∧ (0 ≤ (parseOf c).imm ∧ (parseOf c).imm ≤ 4294967295) := by
  unfold parseOf
  rw [if_neg (by omega)]
  unfold parseErr at h
  split at h
  · rename_i b0 b1 b2 b3 b4 b5 b6 b7
    unfold Byt at hb
    simp only [List.mem_cons, List.not_mem_nil, or_false, forall_eq_or_imp, forall_eq] at hb
    by_cases h1 : b0 < 1 ∨ 23 < b0
    · rw [if_pos h1] at h; cases h
    rw [if_neg h1] at h
    by_cases h2 : b0 = 13
    · rw [if_pos h2]
      dsimp only
      unfold ofBe
      omega
    · rw [if_neg h2]
      dsimp only
      unfold ofBe
      omega
  · cases h
theorem reads_nonneg {i : Instr} (ha : 0 ≤ i.a) (hb : 0 ≤ i.b) (hc : 0 ≤ i.c) (hd : 0 ≤ i.d) : ∀ p ∈ reads i, 0 ≤ p := by
  intro p hp
  unfold reads at hp
  split at hp
  · simp at hp; omega
  split at hp
  · simp at hp; omega
  split at hp
  · simp at hp; omega
  split at hp
  · simp at hp; omega
  · simp at hp
theorem ok_of {na : Nat} {c : List Int} (hb : Byt c) (h : loadOne na c = 0) : Ok na (parseOf c) := by
  unfold loadOne at h
  by_cases h1 : parseErr c ≠ 0
  · rw [if_pos h1] at h; exact absurd h h1
  rw [if_neg h1] at h
  have h1' : parseErr c = 0 := by omega
  by_cases h2 : loadBad na (parseOf c) = true
  · rw [if_pos h2] at h; cases h
  have h2' : loadBad na (parseOf c) = false := by simpa using h2
  obtain ⟨o, d, a, b, cc, im⟩ := parse_facts hb h1'
  unfold loadBad at h2'
  rw [Bool.or_eq_false_iff] at h2'
  obtain ⟨hp, hq⟩ := h2'
  have hp' : placesOk (parseOf c) = true := by simpa using hp
  unfold placesOk at hp'
  rw [Bool.and_eq_true, Bool.and_eq_true, List.all_eq_true] at hp'
  obtain ⟨⟨p1, p2⟩, p3⟩ := hp'
  have hn := reads_nonneg a b cc d
  refine ⟨o, fun p hp => ⟨hn p hp, by simpa using p1 p hp⟩, ⟨d, by simpa using p2⟩, fun h23 => ⟨a, by simpa [h23] using p3⟩, fun h => ⟨b, ?_⟩, im⟩
  rcases h with h | h
  · simpa [h] using hq
  · simpa [h] using hq
theorem errFrom_zero {b : List Int} {na : Nat} : ∀ (n k : Nat), loadErrFrom b na n k = 0 → ∀ j, k ≤ j → j < k + n → loadOne na (chunk b j) = 0
  | 0, k, _, j, h1, h2 => by omega
  | n + 1, k, h, j, h1, h2 => by
    rw [loadErrFrom] at h
    by_cases h3 : loadOne na (chunk b k) ≠ 0
    · rw [if_pos h3] at h; exact absurd h h3
    rw [if_neg h3] at h
    by_cases hjk : j = k
    · subst hjk; omega
    · exact errFrom_zero n (k + 1) h j (by omega) (by omega)
theorem load_ok {b : List Int} {na : Nat} (hb : Byt b) (h : loadErr b na = 0) : ∀ (k : Nat) i, (load b na)[k]? = some i → Ok na i := by
  intro k i hi
  unfold load at hi
  rw [if_neg (by omega)] at hi
  unfold loadErr at h
  by_cases h0 : b.length = 0 ∨ b.length % 8 ≠ 0
  · rw [if_pos h0] at h; cases h
  rw [if_neg h0] at h
  have hk : k < b.length / 8 := by
    have := (List.getElem?_eq_some_iff.1 hi).1
    rwa [instrs_len] at this
  unfold instrs at hi
  rw [List.getElem?_map, List.getElem?_range hk] at hi
  simp at hi
  subst hi
  exact ok_of (fun x hx => hb x (chunk_mem hx)) (errFrom_zero _ 0 h k (by omega) (by omega))
end Ev
/- The literal map[bool]int{true: 1, false: 0}, made and asked in one statement. -/
namespace Go.Proofs.Ytljcgcllhcdleaa
open Go.RowKit
set_option linter.unusedSectionVars false
def ent1 : MapEntry := { key := .bool true, val := .int .i64 1, born := 0 }
def ent2 : MapEntry := { key := .bool false, val := .int .i64 0, born := 1 }
theorem heap_set_new (w : World) (o o' : Obj) : ({ w.alloc o with heap := (w.alloc o).heap.setIfInBounds w.heap.size o' } : World) = w.alloc o' := by
  simp only [World.alloc]
  congr 1
  apply Array.ext_getElem?
  intro i
  simp only [Array.getElem?_setIfInBounds, Array.size_push, Array.getElem?_push]
  split
  · rename_i h; subst h; simp
  · rename_i h; simp [Ne.symm h]
section
variable (P : Program) (t : TypeId) (kt et : TypeId) (ht : P.underlying t = some (.map kt et)) (hk : P.underlying kt = some .bool)
include ht hk
theorem find_nil (x : Value) (w : World) : (Instr.findKey kt x []).run P w = .ok none w := by
  simp [Instr.findKey, run_underlying hk, Instr.findNow]
theorem find_one (w : World) : (Instr.findKey kt (.bool false) [ent1]).run P w = .ok none w := by
  simp [Instr.findKey, run_underlying hk, Instr.findNow, ent1, Instr.sameNow]
theorem find_two (w : World) (x : Bool) : (Instr.findKey kt (.bool x) [ent1, ent2]).run P w = .ok (some (if x then (0, .int .i64 1) else (1, .int .i64 0))) w := by
  cases x <;> simp [Instr.findKey, run_underlying hk, Instr.findNow, ent1, ent2, Instr.sameNow]
theorem chk (em x : Bool) (w : World) : (Instr.checkKey em 10000 kt (.bool x)).run P w = .ok () w := (Maps.bool_keyed hk).check w em (Maps.keyOf_bool_mk hk x)
theorem ins_one (w : World) : (Instr.mapUpdate t (.map (some w.heap.size)) (.bool true) (.int .i64 1)).run P (w.alloc (.map #[] 0)) = .ok () (w.alloc (.map #[ent1] 1)) := by
  have h0 : (w.alloc (.map #[] 0)).heap[w.heap.size]? = some (.map #[] 0) := heap_alloc_new w _
  have hs : ChangeMaps.setBlock (w.alloc (.map #[] 0)) w.heap.size (.map #[ent1] 1) = w.alloc (.map #[ent1] 1) := heap_set_new w _ _
  have hf := find_nil P t kt et ht hk (.bool true) (w.alloc (.map #[] 0))
  have hc := chk P t kt et ht hk false true (w.alloc (.map #[] 0))
  simp [Instr.mapUpdate, run_underlying ht, MapKept.run_getObj_map h0, hc, hf, MapKept.run_setObj_map _ h0, Result.andThen]
  exact hs
theorem ins_two (w : World) : (Instr.mapUpdate t (.map (some w.heap.size)) (.bool false) (.int .i64 0)).run P (w.alloc (.map #[ent1] 1)) = .ok () (w.alloc (.map #[ent1, ent2] 2)) := by
  have h0 : (w.alloc (.map #[ent1] 1)).heap[w.heap.size]? = some (.map #[ent1] 1) := heap_alloc_new w _
  have hs : ChangeMaps.setBlock (w.alloc (.map #[ent1] 1)) w.heap.size (.map #[ent1, ent2] 2) = w.alloc (.map #[ent1, ent2] 2) := heap_set_new w _ _
  have hf := find_one P t kt et ht hk (w.alloc (.map #[ent1] 1))
  have hc := chk P t kt et ht hk false false (w.alloc (.map #[ent1] 1))
  simp [Instr.mapUpdate, run_underlying ht, MapKept.run_getObj_map h0, hc, hf, MapKept.run_setObj_map _ h0, Result.andThen]
  exact hs
theorem look_two (w : World) (x : Bool) : (Instr.lookup t (.map (some w.heap.size)) (.bool x) false).run P (w.alloc (.map #[ent1, ent2] 2)) = .ok (.int .i64 (if x then 1 else 0)) (w.alloc (.map #[ent1, ent2] 2)) := by
  have h0 : (w.alloc (.map #[ent1, ent2] 2)).heap[w.heap.size]? = some (.map #[ent1, ent2] 2) := heap_alloc_new w _
  have hf := find_two P t kt et ht hk (w.alloc (.map #[ent1, ent2] 2)) x
  have hc := chk P t kt et ht hk false x (w.alloc (.map #[ent1, ent2] 2))
  simp [Instr.lookup, run_underlying ht, MapKept.run_getObj_map h0, hc, hf, Result.andThen]
  cases x <;> rfl
end
end Go.Proofs.Ytljcgcllhcdleaa
/- Chapter 1, the reference: what is made of two words. -/
namespace Go.Proofs.Ytljcgcllhcdleaa
open Go.RowKit
set_option linter.unusedSimpArgs false
set_option linter.unusedVariables false
theorem tmod_bounds (a : Int) : -4294967296 < a.tmod 4294967296 ∧ a.tmod 4294967296 < 4294967296 := by
  constructor
  · have := Int.lt_tmod_of_pos a (show (0 : Int) < 4294967296 by decide); omega
  · exact Int.tmod_lt_of_pos a (by decide)
theorem tmod_low (a : Int) : (a.tmod 4294967296 + 4294967296) % 4294967296 = ((Ev.low a : Nat) : Int) := by
  unfold Ev.low
  have h : a.tmod 4294967296 % 4294967296 = a % 4294967296 := by
    have := Int.tmod_add_mul_tdiv a 4294967296
    omega
  omega

theorem wraps63 (n : Int) (h₀ : 0 ≤ n) (h₁ : n < 2 ^ 63) : IntKind.i64.wrap n = n := by rw [IntKind.wrap_i64]; omega
theorem i64_and_nat {a b : Nat} (ha : a < 4294967296) (hb : b < 4294967296) : bits .and .i64 (a : Int) (b : Int) = ((a &&& b : Nat) : Int) :=
  (bits_nat .i64 63 (by decide) wraps63 a b (by omega) (by omega)).1
theorem i64_or_nat {a b : Nat} (ha : a < 4294967296) (hb : b < 4294967296) : bits .or .i64 (a : Int) (b : Int) = ((a ||| b : Nat) : Int) :=
  (bits_nat .i64 63 (by decide) wraps63 a b (by omega) (by omega)).2
theorem i64_xor_nat {a b : Nat} (ha : a < 4294967296) (hb : b < 4294967296) : bits .xor .i64 (a : Int) (b : Int) = ((a ^^^ b : Nat) : Int) := by
  have hx := Ev.xor_lt ha hb
  have ha' : a % 2 ^ IntKind.i64.bits = a := Nat.mod_eq_of_lt (Nat.lt_of_lt_of_le ha (by decide))
  have hb' : b % 2 ^ IntKind.i64.bits = b := Nat.mod_eq_of_lt (Nat.lt_of_lt_of_le hb (by decide))
  simp only [bits, BitVec.ofInt_natCast, BitVec.toNat_xor, BitVec.toNat_ofNat, ha', hb']
  generalize a ^^^ b = z at *
  exact wraps63 _ (by omega) (by omega)
theorem pow_sub {y : Nat} (hy : y % 32 < 32) : ∃ p : Nat, wrap64 ((2 : Int) ^ (32 - y % 32)) = (p : Int) ∧ 1 ≤ p ∧ p ≤ 4294967296 ∧ Hid (p = 2 ^ (32 - y % 32)) := by
  have h1 : 1 ≤ 2 ^ (32 - y % 32) := Nat.one_le_two_pow
  have h2 : 2 ^ (32 - y % 32) ≤ 2 ^ 32 := Nat.pow_le_pow_right (by decide) (by omega)
  have e : (2 : Int) ^ (32 - y % 32) = ((2 ^ (32 - y % 32) : Nat) : Int) := by rw [Int.natCast_pow]; rfl
  refine ⟨2 ^ (32 - y % 32), ?_, h1, by simpa using h2, rfl⟩
  rw [e]
  generalize 2 ^ (32 - y % 32) = z at *
  exact IntWalk.wrap64_in _ ⟨by omega, by omega⟩
theorem shl_split {x k : Nat} (hk : k < 32) : x % 2 ^ (32 - k) * 2 ^ k = Ev.wshl x k := by
  unfold Ev.wshl
  have e : (4294967296 : Nat) = 2 ^ (32 - k) * 2 ^ k := by
    rw [← Nat.pow_add]
    have : 32 - k + k = 32 := by omega
    rw [this]
  rw [e, Nat.mul_mod_mul_right]
theorem shl_end {x y p : Nat} (hy : y % 32 < 32) (hp : Hid (p = 2 ^ (32 - y % 32))) : wrap64 ((x : Int) % (p : Int) * 2 ^ (y % 32)) = ((Ev.wshl x (y % 32) : Nat) : Int) := by
  rw [hp.out]
  have e : (x : Int) % ((2 ^ (32 - y % 32) : Nat) : Int) * 2 ^ (y % 32) = ((Ev.wshl x (y % 32) : Nat) : Int) := by
    rw [← shl_split hy, Int.natCast_mul, Int.natCast_emod, Int.natCast_pow (2) (y % 32)]
    rfl
  rw [e]
  have : Ev.wshl x (y % 32) < 4294967296 := Nat.mod_lt _ (by decide)
  generalize Ev.wshl x (y % 32) = z at *
  exact IntWalk.wrap64_in _ ⟨by omega, by omega⟩
theorem wrap_quo {x y : Nat} (h : x < 4294967296) : wrap64 ((x : Int) / (y : Int)) = (x : Int) / (y : Int) := by
  have hle : x / y ≤ x := Nat.div_le_self _ _
  rw [← Int.natCast_ediv]
  generalize x / y = z at *
  exact IntWalk.wrap64_in _ ⟨by omega, by omega⟩
theorem mul_split {x y : Nat} (hx : x < 4294967296) (hy : y < 4294967296) :
    (wrap64 (wrap64 ((x : Int) % 65536 * y) + wrap64 ((wrap64 ((x : Int) / 65536 * ((y : Int) % 65536))).tmod 65536 * 65536))).tmod 4294967296 = (x : Int) * y % 4294967296 := by
  have h1 : x % 65536 * y ≤ 65535 * 4294967295 := Nat.mul_le_mul (by omega) (by omega)
  have h2 : x / 65536 * (y % 65536) ≤ 65535 * 65535 := Nat.mul_le_mul (by omega) (by omega)
  have e1 : (x : Int) % 65536 * y = ((x % 65536 * y : Nat) : Int) := by rw [Int.natCast_mul, Int.natCast_emod]; rfl
  have e2 : (x : Int) / 65536 * ((y : Int) % 65536) = ((x / 65536 * (y % 65536) : Nat) : Int) := by rw [Int.natCast_mul, Int.natCast_emod, Int.natCast_ediv]; rfl
  have e3 : ((x * y : Nat) : Int) = (x : Int) * y := Int.natCast_mul x y
  have e4 : x * y = x % 65536 * y + 65536 * (x / 65536 * (y % 65536)) + 4294967296 * (x / 65536 * (y / 65536)) := by
    have a := Nat.div_add_mod x 65536
    have b := Nat.div_add_mod y 65536
    have c : x / 65536 * y = x / 65536 * (y % 65536) + 65536 * (x / 65536 * (y / 65536)) := by
      conv => lhs; rw [← b]
      rw [Nat.mul_add, Nat.mul_left_comm]; omega
    conv => lhs; rw [← a]
    rw [Nat.add_mul, Nat.mul_assoc, c, Nat.mul_add]
    omega
  rw [e1, e2, ← e3, e4]
  generalize x % 65536 * y = p at *
  generalize x / 65536 * (y % 65536) = q at *
  generalize x / 65536 * (y / 65536) = r at *
  rw [IntWalk.wrap64_in (p : Int) ⟨by omega, by omega⟩, IntWalk.wrap64_in (q : Int) ⟨by omega, by omega⟩]
  have t : (q : Int).tmod 65536 = (q : Int) % 65536 := Int.tmod_eq_emod_of_nonneg (by omega)
  rw [t, IntWalk.wrap64_in ((q : Int) % 65536 * 65536) ⟨by omega, by omega⟩, IntWalk.wrap64_in ((p : Int) + (q : Int) % 65536 * 65536) ⟨by omega, by omega⟩, Int.tmod_eq_emod_of_nonneg (by omega)]
  omega

set_option maxHeartbeats 4000000 in
theorem refTwo_any (op a b : Int) (w : World) :
    Calls Try.prog 87 #[.int .i64 op, .int .i64 a, .int .i64 b] w fun e w' => e = .returned (.tuple #[.int .i64 (Ev.two op a b), .int .i64 (Ev.twoErr op)]) ∧ Below w.heap.size w w' := by
  obtain ⟨a1, a2⟩ := tmod_bounds a
  obtain ⟨b1, b2⟩ := tmod_bounds b
  have ha := tmod_low a
  have hb := tmod_low b
  have ha' : a.tmod 4294967296 % 4294967296 = ((Ev.low a : Nat) : Int) := by omega
  have hb' : b.tmod 4294967296 % 4294967296 = ((Ev.low b : Nat) : Int) := by omega
  have la := Ev.low_lt a
  have lb := Ev.low_lt b
  unfold Ev.two
  generalize Ev.low a = x at *
  generalize Ev.low b = y at *
  have hy : y % 32 < 32 := Nat.mod_lt _ (by decide)
  have q1 := i64_and_nat la lb
  have q2 := i64_or_nat la lb
  have q3 := i64_xor_nat la lb
  obtain ⟨p, q5, q6, q7, HP⟩ := pow_sub hy
  have hmm := @run_makeMap Try.prog
  rcases op_cases op with rfl | rfl | rfl | rfl | rfl | rfl | rfl | rfl | rfl | rfl | rfl | rfl | h
  rotate_left 12
  · rw [twoN_bad _ _ h, twoErr_bad h]
    clear q1 q2 q3 q5
    go_enter Try.func87, Try.ntmps87
    go_wp2
    go_quiet (fail)
    go_wp2
    all_goals (go_ret2; exact ⟨rfl, by (repeat' first | with_reducible (first | exact Below.refl _ _ | assumption | refine Below.alloc ?_ ?_ _ | refine below_drewN ?_ _ | refine Below.drew ?_ | refine Below.setCell ?_ ?_ _ | refine Below.trans ?_ (Below.mono (by with_reducible assumption) ?_)) | go_size)⟩)
  rotate_left 10
  iterate 2
    · have m1 : ∀ n, (Instr.mapUpdate 141 (.map (some w.heap.size)) (.bool true) (.int .i64 1)).run Try.prog ((w.alloc (.map #[] 0)).drewN n) = .ok () ((w.alloc (.map #[ent1] 1)).drewN n) := fun n => ins_one Try.prog 141 4 3 Try.underlying141 Try.underlying4 (w.drewN n)
      have m2 : ∀ n, (Instr.mapUpdate 141 (.map (some w.heap.size)) (.bool false) (.int .i64 0)).run Try.prog ((w.alloc (.map #[ent1] 1)).drewN n) = .ok () ((w.alloc (.map #[ent1, ent2] 2)).drewN n) := fun n => ins_two Try.prog 141 4 3 Try.underlying141 Try.underlying4 (w.drewN n)
      have m3 : ∀ n x, (Instr.lookup 141 (.map (some w.heap.size)) (.bool x) false).run Try.prog ((w.alloc (.map #[ent1, ent2] 2)).drewN n) = .ok (.int .i64 (if x then 1 else 0)) ((w.alloc (.map #[ent1, ent2] 2)).drewN n) := fun n x => look_two Try.prog 141 4 3 Try.underlying141 Try.underlying4 (w.drewN n) x
      go_enter Try.func87, Try.ntmps87
      go_wp2
      go_quiet (fail)
      go_upto_region 31 with fail
      go_step
      iterate 3 go_step
      refine wpList_insert_run rfl _ _ _ _ rfl _ _ _ rfl rfl rfl _ (m1 _) ?_
      simp only [Act.put]
      refine wpList_insert_run rfl _ _ _ _ rfl _ _ _ rfl rfl rfl _ (m2 _) ?_
      simp only [Act.put]
      go_wp2_with (at_lookup; refine wpList_lookup_run rfl _ _ _ _ rfl _ _ _ rfl rfl _ (m3 _ _) ?_)
      all_goals
        go_ret2
        refine ⟨congrArg Ending.returned (congrArg Value.tuple ?_), by (repeat' first | with_reducible (first | exact Below.refl _ _ | assumption | refine Below.alloc ?_ ?_ _ | refine below_drewN ?_ _ | refine Below.drew ?_ | refine Below.setCell ?_ ?_ _ | refine Below.trans ?_ (Below.mono (by with_reducible assumption) ?_)) | go_size)⟩
        (try simp only [beq_iff_eq, beq_eq_false_iff_ne] at *)
        simp [Ev.twoErr, Ev.twoN]
        try (split <;> omega)
  rotate_left 8
  iterate 2
    rcases Nat.eq_zero_or_pos y with rfl | hpos
    · go_enter Try.func87, Try.ntmps87
      go_wp2
      go_quiet (fail)
      go_wp2
      all_goals (go_ret2; refine ⟨congrArg Ending.returned (congrArg Value.tuple ?_), by (repeat' first | with_reducible (first | exact Below.refl _ _ | assumption | refine Below.alloc ?_ ?_ _ | refine below_drewN ?_ _ | refine Below.drew ?_ | refine Below.setCell ?_ ?_ _ | refine Below.trans ?_ (Below.mono (by with_reducible assumption) ?_)) | go_size)⟩)
      all_goals simp [Ev.twoErr, Ev.twoN]
      all_goals omega
    · have hne : y ≠ 0 := by omega
      go_enter Try.func87, Try.ntmps87
      go_wp2
      go_quiet (fail)
      go_wp2
      all_goals go_ret2
      all_goals (refine ⟨congrArg Ending.returned (congrArg Value.tuple ?_), by (repeat' first | with_reducible (first | exact Below.refl _ _ | assumption | refine Below.alloc ?_ ?_ _ | refine below_drewN ?_ _ | refine Below.drew ?_ | refine Below.setCell ?_ ?_ _ | refine Below.trans ?_ (Below.mono (by with_reducible assumption) ?_)) | go_size)⟩)
      all_goals simp [Ev.twoErr, Ev.twoN, hne]
      all_goals exact wrap_quo la
  all_goals
    go_enter Try.func87, Try.ntmps87
    go_wp2
    go_quiet (fail)
    go_wp2
  all_goals (try go_ret2)
  all_goals (try (refine ⟨congrArg Ending.returned (congrArg Value.tuple ?_), by (repeat' first | with_reducible (first | exact Below.refl _ _ | assumption | refine Below.alloc ?_ ?_ _ | refine below_drewN ?_ _ | refine Below.drew ?_ | refine Below.setCell ?_ ?_ _ | refine Below.trans ?_ (Below.mono (by with_reducible assumption) ?_)) | go_size)⟩))
  all_goals (try simp [Ev.twoErr, Ev.twoN])
  all_goals (try (first | omega | (unfold Ev.wadd; omega) | (unfold Ev.wsub; omega) | (exact cast_shr _ _) | (exact shl_end hy HP) | (exact mul_split la lb) | (split <;> omega)))
end Go.Proofs.Ytljcgcllhcdleaa
