import Derived.Test.YtljcgcllhcdleaaMm10
import Derived.Test.YtljcgcllhcdleaaMm2
/- Chapter 11, plain: what an image's instructions do, of the machine's places, arrays and mode. -/
namespace Ev
/-- the machine, but for its arrays' and leaks' rows -/
structure Mc where
  s : St
  pc : Nat
  wd : Int
  tr : Bool
  st : Nat
/-- an instruction that may be done with so many arrays -/
structure Ok (na : Nat) (i : Instr) : Prop where
  op : 1 ≤ i.op ∧ i.op ≤ 23
  reads : ∀ p ∈ reads i, 0 ≤ p ∧ p < 120
  d : 0 ≤ i.d ∧ i.d < 120
  back : i.op = 23 → 0 ≤ i.a ∧ i.a < 120
  arr : i.op = 16 ∨ i.op = 17 → 0 ≤ i.b ∧ i.b < (na : Int)
  imm : 0 ≤ i.imm ∧ i.imm ≤ 4294967295
structure FineM (na : Nat) (s : St) : Prop where
  len : s.v.length = 120
  vals : ∀ x ∈ s.v, Wd x
  alen : s.arrs.length = na
  arrs : ∀ a ∈ s.arrs, ∀ x ∈ a, Wd x
  mode : s.mode = 0 ∨ s.mode = 1
theorem FineM.val {na : Nat} {s : St} (h : FineM na s) (p : Int) : Wd (val s.v p) := by
  unfold Ev.val
  rw [List.getD_eq_getElem?_getD]
  rcases Nat.lt_or_ge p.toNat s.v.length with hp | hp
  · rw [List.getElem?_eq_getElem hp]
    exact h.vals _ (List.getElem_mem hp)
  · rw [List.getElem?_eq_none hp]
    exact ⟨by decide, by decide⟩
theorem FineM.arr {na : Nat} {s : St} (h : FineM na s) (b n : Int) : Wd (arrAt s.arrs b n) := by
  unfold arrAt
  split
  · unfold Ev.val
    rw [List.getD_eq_getElem?_getD]
    rcases Nat.lt_or_ge n.toNat (s.arrs.getD b.toNat []).length with hp | hp
    · rw [List.getElem?_eq_getElem hp]
      rcases Nat.lt_or_ge b.toNat s.arrs.length with hb | hb
      · have e : s.arrs.getD b.toNat [] = s.arrs[b.toNat] := by rw [List.getD_eq_getElem?_getD, List.getElem?_eq_getElem hb]; rfl
        exact h.arrs (s.arrs.getD b.toNat []) (by rw [e]; exact List.getElem_mem hb) _ (List.getElem_mem hp)
      · have e : s.arrs.getD b.toNat [] = [] := by rw [List.getD_eq_getElem?_getD, List.getElem?_eq_none hb]; rfl
        rw [e] at hp
        simp at hp
    · rw [List.getElem?_eq_none hp]
      exact ⟨by decide, by decide⟩
  · exact ⟨by decide, by decide⟩
theorem FineM.set {na : Nat} {s : St} (h : FineM na s) (k : Nat) {x : Int} (hx : Wd x) : FineM na { s with v := s.v.set k x } :=
  ⟨by simpa using h.len, fun y hy => (List.mem_or_eq_of_mem_set hy).elim (h.vals y) (fun e => e ▸ hx), h.alen, h.arrs, h.mode⟩
theorem step_on2 {i : Instr} {k : Nat} {s : St} (h : i.op = 22) : step i k s = ({ s with v := s.v.set i.d.toNat s.mode, mode := 1 }, some (k + 1)) := by
  unfold step; rw [if_neg (by omega), if_neg (by omega), if_neg (by omega), if_neg (by omega), if_neg (by omega), if_neg (by omega), if_neg (by omega), if_neg (by omega), if_neg (by omega), if_pos h]
theorem step_back {i : Instr} {k : Nat} {s : St} (h : i.op = 23) : step i k s = ({ s with mode := val s.v i.a % 2 }, some (k + 1)) := by
  unfold step; rw [if_neg (by omega), if_neg (by omega), if_neg (by omega), if_neg (by omega), if_neg (by omega), if_neg (by omega), if_neg (by omega), if_neg (by omega), if_neg (by omega), if_neg (by omega), if_pos h]
theorem FineM.step {na : Nat} {i : Instr} {k : Nat} {s : St} (h : FineM na s) (hi : Ok na i) : FineM na (step i k s).1 := by
  have hop := hi.op
  have hm : Wd s.mode := by rcases h.mode with e | e <;> rw [e] <;> exact ⟨by decide, by decide⟩
  rcases (show i.op ≤ 12 ∨ i.op = 13 ∨ i.op = 14 ∨ i.op = 15 ∨ i.op = 16 ∨ i.op = 17 ∨ i.op = 18 ∨ i.op = 19 ∨ (i.op = 20 ∨ i.op = 21) ∨ i.op = 22 ∨ i.op = 23 by omega) with e | e | e | e | e | e | e | e | e | e | e
  · rw [step_two e]; exact h.set _ (two_wd _ _ _)
  · rw [step_sel e]; exact h.set _ (sel_wd _ _ _)
  · rw [step_const e]; exact h.set _ hi.imm
  · rw [step_move e]; exact h.set _ (h.val _)
  · rw [step_load e]; exact h.set _ (h.arr _ _)
  · unfold Ev.step
    rw [if_neg (by omega), if_neg (by omega), if_neg (by omega), if_neg (by omega), if_neg (by omega), if_pos e]
    dsimp only
    split
    · refine ⟨h.len, h.vals, by simpa using h.alen, fun a ha x hx => ?_, h.mode⟩
      rcases List.mem_or_eq_of_mem_set ha with ha | rfl
      · exact h.arrs a ha x hx
      · rcases List.mem_or_eq_of_mem_set hx with hx | rfl
        · have hb := hi.arr (.inr e)
          have hlt : i.b.toNat < s.arrs.length := by have := h.alen; omega
          rw [List.getD_eq_getElem?_getD, List.getElem?_eq_getElem hlt] at hx
          exact h.arrs _ (List.getElem_mem hlt) x hx
        · exact h.val _
    · exact h
  · rw [step_jump e]; exact h
  · by_cases h0 : Ev.val s.v i.a = 0
    · rw [step_zero_yes e h0]; exact h
    · rw [step_zero_no e h0]; exact h
  · rw [step_end e]; exact h
  · rw [step_on2 e]
    have := h.set i.d.toNat hm
    exact ⟨this.len, this.vals, this.alen, this.arrs, .inr rfl⟩
  · rw [step_back e]
    exact ⟨h.len, h.vals, h.alen, h.arrs, by show Ev.val s.v i.a % 2 = 0 ∨ Ev.val s.v i.a % 2 = 1; omega⟩
/-- one instruction of the machine; true: it has ended -/
def mcStep (i : Instr) (m : Mc) : Mc × Bool :=
  match step i m.pc m.s with
  | (_, none) => if i.op = 21 then ({ m with pc := m.pc + 1, tr := true }, true) else ({ m with pc := m.pc + 1, wd := val m.s.v i.a }, true)
  | (s', some k) => ({ m with s := s', pc := k }, false)
end Ev
/- Chapter 10: an instruction's bytes, and eight bytes' instruction. -/
namespace Ev
/-- four bytes, the uppermost one first -/
def be (n : Int) : List Int := [n / 16777216, n / 65536 % 256, n / 256 % 256, n % 256]
def isByte (n : Int) : Bool := decide (0 ≤ n) && decide (n ≤ 255)
def bytesErr (i : Instr) : Int :=
  if ¬ ((0 ≤ i.op ∧ i.op ≤ 255) ∧ (0 ≤ i.d ∧ i.d ≤ 255) ∧ (0 ≤ i.a ∧ i.a ≤ 255) ∧ (0 ≤ i.b ∧ i.b ≤ 255) ∧ (0 ≤ i.c ∧ i.c ≤ 255)) then 3
  else if i.op < 1 ∨ 23 < i.op then 1
  else if i.imm < 0 ∨ 4294967295 < i.imm then 3
  else if (i.op = 13 ∧ i.imm ≠ 0) ∨ (i.op ≠ 13 ∧ i.c ≠ 0) then 2
  else 0
theorem be3 {i : Instr} (h : ¬ ((0 ≤ i.op ∧ i.op ≤ 255) ∧ (0 ≤ i.d ∧ i.d ≤ 255) ∧ (0 ≤ i.a ∧ i.a ≤ 255) ∧ (0 ≤ i.b ∧ i.b ≤ 255) ∧ (0 ≤ i.c ∧ i.c ≤ 255))) : bytesErr i = 3 := by
  unfold bytesErr; rw [if_pos h]
theorem be1 {i : Instr} (h : (0 ≤ i.op ∧ i.op ≤ 255) ∧ (0 ≤ i.d ∧ i.d ≤ 255) ∧ (0 ≤ i.a ∧ i.a ≤ 255) ∧ (0 ≤ i.b ∧ i.b ≤ 255) ∧ (0 ≤ i.c ∧ i.c ≤ 255)) (h2 : i.op < 1 ∨ 23 < i.op) : bytesErr i = 1 := by
  unfold bytesErr; rw [if_neg (fun k => k h), if_pos h2]
theorem be33 {i : Instr} (h : (0 ≤ i.op ∧ i.op ≤ 255) ∧ (0 ≤ i.d ∧ i.d ≤ 255) ∧ (0 ≤ i.a ∧ i.a ≤ 255) ∧ (0 ≤ i.b ∧ i.b ≤ 255) ∧ (0 ≤ i.c ∧ i.c ≤ 255)) (h2 : ¬ (i.op < 1 ∨ 23 < i.op)) (h3 : i.imm < 0 ∨ 4294967295 < i.imm) : bytesErr i = 3 := by
  unfold bytesErr; rw [if_neg (fun k => k h), if_neg h2, if_pos h3]
theorem be2 {i : Instr} (h : (0 ≤ i.op ∧ i.op ≤ 255) ∧ (0 ≤ i.d ∧ i.d ≤ 255) ∧ (0 ≤ i.a ∧ i.a ≤ 255) ∧ (0 ≤ i.b ∧ i.b ≤ 255) ∧ (0 ≤ i.c ∧ i.c ≤ 255)) (h2 : ¬ (i.op < 1 ∨ 23 < i.op)) (h3 : ¬ (i.imm < 0 ∨ 4294967295 < i.imm))
    (h4 : (i.op = 13 ∧ i.imm ≠ 0) ∨ (i.op ≠ 13 ∧ i.c ≠ 0)) : bytesErr i = 2 := by
  unfold bytesErr; rw [if_neg (fun k => k h), if_neg h2, if_neg h3, if_pos h4]
theorem be0 {i : Instr} (h : (0 ≤ i.op ∧ i.op ≤ 255) ∧ (0 ≤ i.d ∧ i.d ≤ 255) ∧ (0 ≤ i.a ∧ i.a ≤ 255) ∧ (0 ≤ i.b ∧ i.b ≤ 255) ∧ (0 ≤ i.c ∧ i.c ≤ 255)) (h2 : ¬ (i.op < 1 ∨ 23 < i.op)) (h3 : ¬ (i.imm < 0 ∨ 4294967295 < i.imm))
    (h4 : ¬ ((i.op = 13 ∧ i.imm ≠ 0) ∨ (i.op ≠ 13 ∧ i.c ≠ 0))) : bytesErr i = 0 := by
  unfold bytesErr; rw [if_neg (fun k => k h), if_neg h2, if_neg h3, if_neg h4]
def bytesOf (i : Instr) : List Int := if bytesErr i = 0 then [i.op, i.d, i.a, i.b] ++ be (if i.op = 13 then i.c else i.imm) else []
theorem bytes_bad {i : Instr} (h : bytesErr i ≠ 0) : bytesOf i = [] := by unfold bytesOf; rw [if_neg h]
theorem bytes_sel {i : Instr} (h : bytesErr i = 0) (k : i.op = 13) : bytesOf i = [i.op, i.d, i.a, i.b, i.c / 16777216, i.c / 65536 % 256, i.c / 256 % 256, i.c % 256] := by
  unfold bytesOf; rw [if_pos h, if_pos k]; rfl
theorem bytes_imm {i : Instr} (h : bytesErr i = 0) (k : i.op ≠ 13) : bytesOf i = [i.op, i.d, i.a, i.b, i.imm / 16777216, i.imm / 65536 % 256, i.imm / 256 % 256, i.imm % 256] := by
  unfold bytesOf; rw [if_pos h, if_neg k]; rfl
def ofBe (b4 b5 b6 b7 : Int) : Int := b4 * 16777216 + b5 * 65536 + b6 * 256 + b7
def parseErr (b : List Int) : Int :=
  match b with
  | [b0, _, _, _, b4, b5, b6, b7] =>
    if b0 < 1 ∨ 23 < b0 then 1 else if b0 = 13 ∧ 255 < ofBe b4 b5 b6 b7 then 3 else 0
  | _ => 2
def parseOf (b : List Int) : Instr :=
  if parseErr b ≠ 0 then ⟨0, 0, 0, 0, 0, 0⟩ else
  match b with
  | [b0, b1, b2, b3, b4, b5, b6, b7] =>
    if b0 = 13 then ⟨b0, b1, b2, b3, ofBe b4 b5 b6 b7, 0⟩ else ⟨b0, b1, b2, b3, 0, ofBe b4 b5 b6 b7⟩
  | _ => ⟨0, 0, 0, 0, 0, 0⟩
end Ev
/- Chapter 11, plain: what an image's instructions are, and how it runs. -/
namespace Ev
def chunk (b : List Int) (k : Nat) : List Int := (b.drop (8 * k)).take 8
def placesOk (i : Instr) : Bool := (reads i).all (fun p => decide (p < 120)) && decide (i.d < 120) && (!(i.op == 23) || decide (i.a < 120))
def loadBad (na : Nat) (i : Instr) : Bool := !placesOk i || ((i.op == 16 || i.op == 17) && decide ((na : Int) ≤ i.b))
def loadOne (na : Nat) (c : List Int) : Int := if parseErr c ≠ 0 then parseErr c else if loadBad na (parseOf c) then 3 else 0
def loadErrFrom (b : List Int) (na : Nat) : Nat → Nat → Int
  | 0, _ => 0
  | n + 1, k => if loadOne na (chunk b k) ≠ 0 then loadOne na (chunk b k) else loadErrFrom b na n (k + 1)
def instrs (b : List Int) (n : Nat) : List Instr := (List.range n).map fun k => parseOf (chunk b k)
def loadErr (b : List Int) (na : Nat) : Int := if b.length = 0 ∨ b.length % 8 ≠ 0 then 2 else loadErrFrom b na (b.length / 8) 0
def load (b : List Int) (na : Nat) : List Instr := if loadErr b na ≠ 0 then [] else instrs b (b.length / 8)
def ranErr (e : Int) : Ran := { ended := { word := 0, trap := false, arrays := [] }, err := e, steps := 0, mode := 0, leaks := [] }
def ranOf (m : Mc) (lk : List Leak) : Ran := { ended := { word := m.wd, trap := m.tr, arrays := m.s.arrs }, err := 0, steps := m.st, mode := m.s.mode, leaks := lk }
def mcRun (l : List Instr) (t : List Int) (most : Int) : Nat → Mc → List Leak → Ran
  | 0, _, _ => ranErr 12
  | n + 1, m, lk =>
    if most ≤ m.st then ranErr 12
    else if l.length ≤ m.pc then ranErr 8
    else if (mcStep (l.getD m.pc default) { m with st := m.st + 1 }).2 then ranOf (mcStep (l.getD m.pc default) { m with st := m.st + 1 }).1 (lk ++ [leak t (l.getD m.pc default) m.pc m.s (m.s.mode == 0)])
    else mcRun l t most n (mcStep (l.getD m.pc default) { m with st := m.st + 1 }).1 (lk ++ [leak t (l.getD m.pc default) m.pc m.s (m.s.mode == 0)])
def start120 (g : Given) (mode : Int) : St := { v := (0 :: g.words ++ List.replicate (119 - g.words.length) 0).take 120, arrs := g.arrays, mode := mode }
def mc0 (g : Given) (mode : Int) : Mc := { s := start120 g mode, pc := 0, wd := 0, tr := false, st := 0 }
def runImage (b : List Int) (params : Int) (na : Nat) (t : List Int) (g : Given) (mode most : Int) : Ran :=
  if loadErr b na ≠ 0 then ranErr (loadErr b na)
  else if mode < 0 ∨ 1 < mode ∨ (g.words.length : Int) ≠ params ∨ 120 ≤ params ∨ g.arrays.length ≠ na then ranErr 5
  else mcRun (load b na) t most (most.toNat + 1) (mc0 g mode) []
end Ev
/- Chapter 11, plain: loading, chunk by chunk; what a loaded instruction is. -/
namespace Ev
theorem chunk_len {b : List Int} {j : Nat} (h : 8 * j + 8 ≤ b.length) : (chunk b j).length = 8 := by
  unfold chunk; simp; omega
theorem chunk_mem {b : List Int} {j : Nat} {x : Int} (h : x ∈ chunk b j) : x ∈ b := List.mem_of_mem_drop (List.mem_of_mem_take h)
theorem instrs_snoc (b : List Int) (j : Nat) : instrs b (j + 1) = instrs b j ++ [parseOf (chunk b j)] := by
  unfold instrs; rw [List.range_succ, List.map_append]; rfl
theorem instrs_len (b : List Int) (j : Nat) : (instrs b j).length = j := by unfold instrs; simp
theorem errFrom_on {b : List Int} {na n k : Nat} (h : loadOne na (chunk b k) = 0) : loadErrFrom b na (n + 1) k = loadErrFrom b na n (k + 1) := by
  rw [loadErrFrom, if_neg (by omega)]
theorem errFrom_stop {b : List Int} {na n k : Nat} {e : Int} (h : loadOne na (chunk b k) = e) (he : e ≠ 0) : loadErrFrom b na (n + 1) k = e := by
  rw [loadErrFrom, if_pos (by omega), h]
theorem one_err {na : Nat} {c : List Int} (h : parseErr c ≠ 0) : loadOne na c = parseErr c := by unfold loadOne; rw [if_pos h]
theorem one_bad {na : Nat} {c : List Int} (h : parseErr c = 0) (hb : loadBad na (parseOf c) = true) : loadOne na c = 3 := by unfold loadOne; rw [if_neg (by omega), if_pos hb]
theorem one_ok {na : Nat} {c : List Int} (h : parseErr c = 0) (hb : loadBad na (parseOf c) = false) : loadOne na c = 0 := by unfold loadOne; rw [if_neg (by omega), if_neg (by simp [hb])]
theorem readsM_le (i : Instr) : (reads i).length ≤ 3 := by
  unfold reads
  split
  · simp
  split
  · simp
  split
  · simp
  split
  · simp
  · simp
/-- what the program looks at -/
def lookedM (i : Instr) : List Int := reads i ++ [i.d] ++ (if i.op = 23 then [i.a] else [])
theorem lookedM_ok (i : Instr) : placesOk i = (lookedM i).all (fun p => decide (p < 120)) := by
  unfold placesOk lookedM
  by_cases h : i.op = 23
  · simp [h, Bool.and_assoc]
  · simp [h]
theorem lookedM_bad {na : Nat} {i : Instr} {p : Int} (hp : p ∈ lookedM i) (h : 120 ≤ p) : loadBad na i = true := by
  have : placesOk i = false := by
    rw [lookedM_ok, Bool.eq_false_iff]
    intro hh
    have := List.all_eq_true.1 hh p hp
    simp at this
    omega
  unfold loadBad
  rw [this]; rfl
theorem lookedM_good {i : Instr} (h : ∀ p ∈ lookedM i, p < 120) : placesOk i = true := by
  rw [lookedM_ok, List.all_eq_true]
  intro p hp
  simpa using h p hp
theorem bad_arr {na : Nat} {i : Instr} (h : i.op = 16 ∨ i.op = 17) (hb : (na : Int) ≤ i.b) : loadBad na i = true := by
  unfold loadBad
  rcases h with h | h <;> simp [h, hb]
theorem good_arr {na : Nat} {i : Instr} (hp : placesOk i = true) (h : i.op = 16 ∨ i.op = 17 → i.b < (na : Int)) : loadBad na i = false := by
  unfold loadBad
  rw [hp]
  by_cases h1 : i.op = 16 ∨ i.op = 17
  · have := h h1
    simp
    intro _
    omega
  · have h2 : i.op ≠ 16 ∧ i.op ≠ 17 := by omega
    simp [h2.1, h2.2]
/-- the bytes of an image -/
def Byt (b : List Int) : Prop := ∀ x ∈ b, 0 ≤ x ∧ x ≤ 255
theorem parse_facts {c : List Int} (hb : Byt c) (h : parseErr c = 0) : (1 ≤ (parseOf c).op ∧ (parseOf c).op ≤ 23) ∧ (0 ≤ (parseOf c).d) ∧ (0 ≤ (parseOf c).a) ∧ (0 ≤ (parseOf c).b) ∧ (0 ≤ (parseOf c).c) ∧ (0 ≤ (parseOf c).imm ∧ (parseOf c).imm ≤ 4294967295) := by
  unfold parseOf
  rw [if_neg (by omega)]
  unfold parseErr at h
  split at h
  · rename_i b0 b1 b2 b3 b4 b5 b6 b7
    unfold Byt at hb
    simp only [List.mem_cons, List.not_mem_nil, or_false, forall_eq_or_imp, forall_eq] at hb
    by_cases h1 : b0 < 1 ∨ 23 < b0
    · rw [if_pos h1] at h; cases h
    rw [if_neg h1] at h
    by_cases h2 : b0 = 13
    · rw [if_pos h2]
      dsimp only
      unfold ofBe
      omega
    · rw [if_neg h2]
      dsimp only
      unfold ofBe
      omega
  · cases h
theorem reads_nonneg {i : Instr} (ha : 0 ≤ i.a) (hb : 0 ≤ i.b) (hc : 0 ≤ i.c) (hd : 0 ≤ i.d) : ∀ p ∈ reads i, 0 ≤ p := by
  intro p hp
  unfold reads at hp
  split at hp
  · simp at hp; omega
  split at hp
  · simp at hp; omega
  split at hp
  · simp at hp; omega
  split at hp
  · simp at hp; omega
  · simp at hp
theorem ok_of {na : Nat} {c : List Int} (hb : Byt c) (h : loadOne na c = 0) : Ok na (parseOf c) := by
  unfold loadOne at h
  by_cases h1 : parseErr c ≠ 0
  · rw [if_pos h1] at h; exact absurd h h1
  rw [if_neg h1] at h
  have h1' : parseErr c = 0 := by omega
  by_cases h2 : loadBad na (parseOf c) = true
  · rw [if_pos h2] at h; cases h
  have h2' : loadBad na (parseOf c) = false := by simpa using h2
  obtain ⟨o, d, a, b, cc, im⟩ := parse_facts hb h1'
  unfold loadBad at h2'
  rw [Bool.or_eq_false_iff] at h2'
  obtain ⟨hp, hq⟩ := h2'
  have hp' : placesOk (parseOf c) = true := by simpa using hp
  unfold placesOk at hp'
  rw [Bool.and_eq_true, Bool.and_eq_true, List.all_eq_true] at hp'
  obtain ⟨⟨p1, p2⟩, p3⟩ := hp'
  have hn := reads_nonneg a b cc d
  refine ⟨o, fun p hp => ⟨hn p hp, by simpa using p1 p hp⟩, ⟨d, by simpa using p2⟩, fun h23 => ⟨a, by simpa [h23] using p3⟩, fun h => ⟨b, ?_⟩, im⟩
  rcases h with h | h
  · simpa [h] using hq
  · simpa [h] using hq
theorem errFrom_zero {b : List Int} {na : Nat} : ∀ (n k : Nat), loadErrFrom b na n k = 0 → ∀ j, k ≤ j → j < k + n → loadOne na (chunk b j) = 0
  | 0, k, _, j, h1, h2 => by omega
  | n + 1, k, h, j, h1, h2 => by
    rw [loadErrFrom] at h
    by_cases h3 : loadOne na (chunk b k) ≠ 0
    · rw [if_pos h3] at h; exact absurd h h3
    rw [if_neg h3] at h
    by_cases hjk : j = k
    · subst hjk; omega
    · exact errFrom_zero n (k + 1) h j (by omega) (by omega)
theorem load_ok {b : List Int} {na : Nat} (hb : Byt b) (h : loadErr b na = 0) : ∀ (k : Nat) i, (load b na)[k]? = some i → Ok na i := by
  intro k i hi
  unfold load at hi
  rw [if_neg (by omega)] at hi
  unfold loadErr at h
  by_cases h0 : b.length = 0 ∨ b.length % 8 ≠ 0
  · rw [if_pos h0] at h; cases h
  rw [if_neg h0] at h
  have hk : k < b.length / 8 := by
    have := (List.getElem?_eq_some_iff.1 hi).1
    rwa [instrs_len] at this
  unfold instrs at hi
  rw [List.getElem?_map, List.getElem?_range hk] at hi
  simp at hi
  subst hi
  exact ok_of (fun x hx => hb x (chunk_mem hx)) (errFrom_zero _ 0 h k (by omega) (by omega))
end Ev
