import Derived.Test.YtljcgcllhcdleaaMt7
import Derived.Test.YtljcgcllhcdleaaMt4
/- Chapter 11, plain: loading, chunk by chunk; what a loaded instruction is. -/
namespace Ev
theorem chunk_len {b : List Int} {j : Nat} (h : 8 * j + 8 ≤ b.length) : (chunk b j).length = 8 := by
  unfold chunk; simp; omega
theorem chunk_mem {b : List Int} {j : Nat} {x : Int} (h : x ∈ chunk b j) : x ∈ b := List.mem_of_mem_drop (List.mem_of_mem_take h)
theorem instrs_snoc (b : List Int) (j : Nat) : instrs b (j + 1) = instrs b j ++ [parseOf (chunk b j)] := by
  unfold instrs; rw [List.range_succ, List.map_append]; rfl
theorem instrs_len (b : List Int) (j : Nat) : (instrs b j).length = j := by unfold instrs; simp
theorem errFrom_on {b : List Int} {na n k : Nat} (h : loadOne na (chunk b k) = 0) : loadErrFrom b na (n + 1) k = loadErrFrom b na n (k + 1) := by
  rw [loadErrFrom, if_neg (by omega)]
theorem errFrom_stop {b : List Int} {na n k : Nat} {e : Int} (h : loadOne na (chunk b k) = e) (he : e ≠ 0) : loadErrFrom b na (n + 1) k = e := by
  rw [loadErrFrom, if_pos (by omega), h]
theorem one_err {na : Nat} {c : List Int} (h : parseErr c ≠ 0) : loadOne na c = parseErr c := by unfold loadOne; rw [if_pos h]
theorem one_bad {na : Nat} {c : List Int} (h : parseErr c = 0) (hb : loadBad na (parseOf c) = true) : loadOne na c = 3 := by unfold loadOne; rw [if_neg (by omega), if_pos hb]
theorem one_ok {na : Nat} {c : List Int} (h : parseErr c = 0) (hb : loadBad na (parseOf c) = false) : loadOne na c = 0 := by unfold loadOne; rw [if_neg (by omega), if_neg (by simp [hb])]
theorem readsM_le (i : Instr) : (reads i).length ≤ 3 := by
  unfold reads
  split
  · simp
  split
  · simp
  split
  · simp
  split
  · simp
  · simp
/-- what the program looks at -/
def lookedM (i : Instr) : List Int := reads i ++ [i.d] ++ (if i.op = 23 then [i.a] else [])
theorem lookedM_ok (i : Instr) : placesOk i = (lookedM i).all (fun p => decide (p < 120)) := by
  unfold placesOk lookedM
  by_cases h : i.op = 23
  · simp [h, Bool.and_assoc]
  · simp [h]
theorem lookedM_bad {na : Nat} {i : Instr} {p : Int} (hp : p ∈ lookedM i) (h : 120 ≤ p) : loadBad na i = true := by
  have : placesOk i = false := by
    rw [lookedM_ok, Bool.eq_false_iff]
    intro hh
    have := List.all_eq_true.1 hh p hp
    simp at this
    omega
  unfold loadBad
  rw [this]; rfl
theorem lookedM_good {i : Instr} (h : ∀ p ∈ lookedM i, p < 120) : placesOk i = true := by
  rw [lookedM_ok, List.all_eq_true]
  intro p hp
  simpa using h p hp
theorem bad_arr {na : Nat} {i : Instr} (h : i.op = 16 ∨ i.op = 17) (hb : (na : Int) ≤ i.b) : loadBad na i = true := by
  unfold loadBad
  rcases h with h | h <;> simp [h, hb]
theorem good_arr {na : Nat} {i : Instr} (hp : placesOk i = true) (h : i.op = 16 ∨ i.op = 17 → i.b < (na : Int)) : loadBad na i = false := by
  unfold loadBad
  rw [hp]
  by_cases h1 : i.op = 16 ∨ i.op = 17
  · have := h h1
    simp
    intro _
    omega
  · have h2 : i.op ≠ 16 ∧ i.op ≠ 17 := by omega
    simp [h2.1, h2.2]
/-- the bytes of an image -/
def Byt (b : List Int) : Prop := ∀ x ∈ b, 0 ≤ x ∧ x ≤ 255
theorem parse_facts {c : List Int} (hb : Byt c) (h : parseErr c = 0) : (1 ≤ (parseOf c).op ∧ (parseOf c).op ≤ 23) ∧ (0 ≤ (parseOf c).d) ∧ (0 ≤ (parseOf c).a) ∧ (0 ≤ (parseOf c).b) ∧ (0 ≤ (parseOf c).c) ∧ (0 ≤ (parseOf c).imm ∧ (parseOf c).imm ≤ 4294967295) := by
  unfold parseOf
  rw [if_neg (by omega)]
  unfold parseErr at h
  split at h
  · rename_i b0 b1 b2 b3 b4 b5 b6 b7
    unfold Byt at hb
    simp only [List.mem_cons, List.not_mem_nil, or_false, forall_eq_or_imp, forall_eq] at hb
    by_cases h1 : b0 < 1 ∨ 23 < b0
    · rw [if_pos h1] at h; cases h
    rw [if_neg h1] at h
    by_cases h2 : b0 = 13
    · rw [if_pos h2]
      dsimp only
      unfold ofBe
      omega
    · rw [if_neg h2]
      dsimp only
      unfold ofBe
      omega
  · cases h
theorem reads_nonneg {i : Instr} (ha : 0 ≤ i.a) (hb : 0 ≤ i.b) (hc : 0 ≤ i.c) (hd : 0 ≤ i.d) : ∀ p ∈ reads i, 0 ≤ p := by
  intro p hp
  unfold reads at hp
  split at hp
  · simp at hp; omega
  split at hp
  · simp at hp; omega
  split at hp
  · simp at hp; omega
  split at hp
  · simp at hp; omega
  · simp at hp
theorem ok_of {na : Nat} {c : List Int} (hb : Byt c) (h : loadOne na c = 0) : Ok na (parseOf c) := by
  unfold loadOne at h
  by_cases h1 : parseErr c ≠ 0
  · rw [if_pos h1] at h; exact absurd h h1
  rw [if_neg h1] at h
  have h1' : parseErr c = 0 := by omega
  by_cases h2 : loadBad na (parseOf c) = true
  · rw [if_pos h2] at h; cases h
  have h2' : loadBad na (parseOf c) = false := by simpa using h2
  obtain ⟨o, d, a, b, cc, im⟩ := parse_facts hb h1'
  unfold loadBad at h2'
  rw [Bool.or_eq_false_iff] at h2'
  obtain ⟨hp, hq⟩ := h2'
  have hp' : placesOk (parseOf c) = true := by simpa using hp
  unfold placesOk at hp'
  rw [Bool.and_eq_true, Bool.and_eq_true, List.all_eq_true] at hp'
  obtain ⟨⟨p1, p2⟩, p3⟩ := hp'
  have hn := reads_nonneg a b cc d
  refine ⟨o, fun p hp => ⟨hn p hp, by simpa using p1 p hp⟩, ⟨d, by simpa using p2⟩, fun h23 => ⟨a, by simpa [h23] using p3⟩, fun h => ⟨b, ?_⟩, im⟩
  rcases h with h | h
  · simpa [h] using hq
  · simpa [h] using hq
theorem errFrom_zero {b : List Int} {na : Nat} : ∀ (n k : Nat), loadErrFrom b na n k = 0 → ∀ j, k ≤ j → j < k + n → loadOne na (chunk b j) = 0
  | 0, k, _, j, h1, h2 => by omega
  | n + 1, k, h, j, h1, h2 => by
    rw [loadErrFrom] at h
    by_cases h3 : loadOne na (chunk b k) ≠ 0
    · rw [if_pos h3] at h; exact absurd h h3
    rw [if_neg h3] at h
    by_cases hjk : j = k
    · subst hjk; omega
    · exact errFrom_zero n (k + 1) h j (by omega) (by omega)
theorem load_ok {b : List Int} {na : Nat} (hb : Byt b) (h : loadErr b na = 0) : ∀ (k : Nat) i, (load b na)[k]? = some i → Ok na i := by
  intro k i hi
  unfold load at hi
  rw [if_neg (by omega)] at hi
  unfold loadErr at h
  by_cases h0 : b.length = 0 ∨ b.length % 8 ≠ 0
  · rw [if_pos h0] at h; cases h
  rw [if_neg h0] at h
  have hk : k < b.length / 8 := by
    have := (List.getElem?_eq_some_iff.1 hi).1
    rwa [instrs_len] at this
  unfold instrs at hi
  rw [List.getElem?_map, List.getElem?_range hk] at hi
  simp at hi
  subst hi
  exact ok_of (fun x hx => hb x (chunk_mem hx)) (errFrom_zero _ 0 h k (by omega) (by omega))
end Ev
