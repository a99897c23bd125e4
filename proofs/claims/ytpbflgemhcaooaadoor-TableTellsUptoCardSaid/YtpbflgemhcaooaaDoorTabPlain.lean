import Derived.Test.YtpbflgemhcaooaaDoorFlat
import Derived.Lib.AtoiAll
import Derived.Lib.ItoaNum
import Derived.Lib.IndexMore
/- Chapter 2, plainly: a table's text, and a text's table. -/
namespace Ev
open Go
def opNames : List (List UInt8) := [[97, 100, 100], [115, 117, 98], [97, 110, 100], [111, 114], [120, 111, 114], [115, 104, 108], [115, 104, 114], [109, 117, 108], [100, 105, 118], [114, 101, 109], [108, 101, 115, 115], [115, 97, 109, 101], [115, 101, 108], [99, 111, 110, 115, 116], [109, 111, 118, 101], [108, 111, 97, 100], [115, 116, 111, 114, 101]]
/-- the op of a name, among the first k -/
def opTo (name : List UInt8) : Nat → Nat
  | 0 => 0
  | k + 1 => if opNames.getD k [] = name then k + 1 else opTo name k
def opOf (name : List UInt8) : Nat := opTo name 17
def atoiN (s : List UInt8) : Int := match Lib.atoiAll s with | .ok v => v | .range => Lib.atoiSat s | _ => 0
def atoiY (s : List UInt8) : Bool := match Lib.atoiAll s with | .ok _ => true | _ => false
def zeros18 : List Int := List.replicate 18 0
/-- the place of the first byte b; the length: there is none -/
def first (b : UInt8) : List UInt8 → Nat
  | [] => 0
  | c :: l => if c = b then 0 else first b l + 1
theorem first_le (b : UInt8) : ∀ l, first b l ≤ l.length
  | [] => Nat.le_refl _
  | c :: l => by unfold first; split; omega; have := first_le b l; simp; omega
theorem first_at {b : UInt8} : ∀ {l : List UInt8}, first b l < l.length → l = l.take (first b l) ++ b :: l.drop (first b l + 1)
  | [], h => by simp [first] at h
  | c :: l, h => by
    unfold first at h ⊢
    by_cases hc : c = b
    · rw [if_pos hc]; simp [hc]
    · rw [if_neg hc] at h ⊢
      have := first_at (b := b) (l := l) (by simp at h; omega)
      simp only [List.take_succ_cons, List.drop_succ_cons, List.cons_append]
      rw [← this]
theorem first_not {b : UInt8} : ∀ {l : List UInt8} {k : Nat}, k ≤ first b l → b ∉ l.take k
  | [], k, _ => by simp
  | c :: l, 0, _ => by simp
  | c :: l, k + 1, h => by
    unfold first at h
    by_cases hc : c = b
    · rw [if_pos hc] at h; omega
    · rw [if_neg hc] at h
      have := first_not (b := b) (l := l) (k := k) (by omega)
      simp only [List.take_succ_cons, List.mem_cons, not_or]
      exact ⟨fun h => hc h.symm, this⟩
theorem first_none {b : UInt8} : ∀ {l : List UInt8}, b ∉ l → first b l = l.length
  | [], _ => rfl
  | c :: l, h => by
    simp only [List.mem_cons, not_or] at h
    unfold first
    rw [if_neg (fun e => h.1 e.symm), first_none h.2]
    rfl
theorem first_app {b : UInt8} : ∀ {l r : List UInt8}, b ∉ l → first b (l ++ b :: r) = l.length
  | [], r, _ => by simp [first]
  | c :: l, r, h => by
    simp only [List.mem_cons, not_or] at h
    show (if c = b then 0 else first b (l ++ b :: r) + 1) = _
    rw [if_neg (fun e => h.1 e.symm), first_app h.2]
    rfl
theorem index_first1 (b : UInt8) : ∀ l, Lib.index l [b] = if first b l < l.length then (first b l : Int) else -1
  | [] => by simp [Lib.index, first]
  | c :: l => by
    unfold Lib.index first
    by_cases hc : c = b
    · rw [if_pos (by simp [hc]), if_pos hc, if_pos (by simp)]; rfl
    · rw [if_neg (by simp; exact fun h => hc h.symm), if_neg hc, index_first1 b l]
      by_cases hl : first b l < l.length
      · rw [if_pos hl, if_neg (by simp <;> omega), if_pos (by simp; omega)]; (try simp)
      · rw [if_neg hl, if_pos (by simp), if_neg (by simp; omega)]
theorem cut_first (b : UInt8) (l : List UInt8) : Lib.cut l [b] = if first b l < l.length then (l.take (first b l), l.drop (first b l + 1), true) else (l, [], false) := by
  unfold Lib.cut
  rw [index_first1]
  by_cases h : first b l < l.length
  · rw [if_pos h, if_pos (by omega), if_pos h]; simp
  · rw [if_neg h, if_neg (by omega), if_neg h]
/-- a line: the error, the table, the last op -/
def tline (l : List UInt8) (t : List Int) (last : Nat) : Int × List Int × Nat :=
  if first 32 l = l.length then (2, t, last)
  else if opOf (l.take (first 32 l)) = 0 then (7, t, last)
  else if atoiY (l.drop (first 32 l + 1)) = true ∧ Lib.itoa (atoiN (l.drop (first 32 l + 1))) = l.drop (first 32 l + 1) ∧ 1 ≤ atoiN (l.drop (first 32 l + 1)) ∧ last < opOf (l.take (first 32 l)) then
    (0, t.set (opOf (l.take (first 32 l))) (atoiN (l.drop (first 32 l + 1))), opOf (l.take (first 32 l)))
  else (2, t, last)
def tend (t : List Int) : Int × List Int := if wrong t = 0 then (0, t) else (wrong t, zeros18)
/-- what is left of the text, what was read of the line -/
def tscan : List UInt8 → List UInt8 → List Int → Nat → Int × List Int
  | [], acc, t, _ => if acc = [] then tend t else (2, zeros18)
  | c :: s, acc, t, last =>
    if c = 10 then
      if (tline acc t last).1 = 0 then tscan s [] (tline acc t last).2.1 (tline acc t last).2.2 else ((tline acc t last).1, zeros18)
    else tscan s (acc ++ [c]) t last
def tparse (s : List UInt8) : Int × List Int := tscan s [] zeros18 0
theorem scan_line : ∀ (l : List UInt8) {s acc : List UInt8} {t : List Int} {last : Nat}, 10 ∉ l →
    tscan (l ++ 10 :: s) acc t last = if (tline (acc ++ l) t last).1 = 0 then tscan s [] (tline (acc ++ l) t last).2.1 (tline (acc ++ l) t last).2.2 else ((tline (acc ++ l) t last).1, zeros18)
  | [], s, acc, t, last, _ => by
    simp only [List.nil_append, List.append_nil]
    conv => lhs; unfold tscan
    rw [if_pos rfl]
  | c :: l, s, acc, t, last, h => by
    simp only [List.mem_cons, not_or] at h
    rw [List.cons_append]
    conv => lhs; unfold tscan
    rw [if_neg (fun e => h.1 e.symm), scan_line l h.2]
    simp
theorem scan_tail : ∀ (l : List UInt8) {acc : List UInt8} {t : List Int} {last : Nat}, 10 ∉ l → acc ++ l ≠ [] → tscan l acc t last = (2, zeros18)
  | [], acc, t, last, _, h => by
    unfold tscan
    rw [if_neg (by simpa using h)]
  | c :: l, acc, t, last, h, hn => by
    simp only [List.mem_cons, not_or] at h
    unfold tscan
    rw [if_neg (fun e => h.1 e.symm), scan_tail l h.2 (by simp)]
/-! ### The text -/
def tlineOf (op : Nat) (n : Int) : List UInt8 := opNames.getD (op - 1) [] ++ [32] ++ Lib.itoa n ++ [10]
def ttextTo (t : List Int) : Nat → List UInt8
  | 0 => []
  | k + 1 => ttextTo t k ++ (if t.getD (k + 1) 0 ≠ 0 then tlineOf (k + 1) (t.getD (k + 1) 0) else [])
def ttext (t : List Int) : List UInt8 := ttextTo t 17
theorem names_good : ∀ k, k < 17 → 10 ∉ opNames.getD k [] ∧ 32 ∉ opNames.getD k [] ∧ opOf (opNames.getD k []) = k + 1 := by decide
theorem opTo_name (name : List UInt8) : ∀ k, k ≤ 17 → opTo name k ≤ k ∧ (opTo name k ≠ 0 → opNames.getD (opTo name k - 1) [] = name)
  | 0, _ => ⟨Nat.le_refl _, fun h => absurd rfl h⟩
  | k + 1, hk => by
    unfold opTo
    by_cases h : opNames.getD k [] = name
    · rw [if_pos h]; exact ⟨Nat.le_refl _, fun _ => h⟩
    · rw [if_neg h]
      have := opTo_name name k (by omega)
      exact ⟨by omega, this.2⟩
theorem digits_good : ∀ n : Nat, 1 ≤ n → n ≤ 7 → Lib.itoa (n : Int) = [UInt8.ofNat (48 + n)] ∧ atoiY [UInt8.ofNat (48 + n)] = true ∧ atoiN [UInt8.ofNat (48 + n)] = n ∧ (10 : UInt8) ∉ [UInt8.ofNat (48 + n)] := by
  intro n h1 h2
  obtain rfl | rfl | rfl | rfl | rfl | rfl | rfl : n = 1 ∨ n = 2 ∨ n = 3 ∨ n = 4 ∨ n = 5 ∨ n = 6 ∨ n = 7 := by omega
  all_goals decide +kernel
theorem wrong_bits {t : List Int} (h : wrong t = 0) : seenOf t 0 = 0 ∧ ∀ op : Nat, 1 ≤ op → op ≤ 17 → 0 ≤ t.getD op 0 ∧ t.getD op 0 ≤ 7 := by
  have hw : ∀ n op : Nat, wrongFrom t n op = 0 → ∀ j, op ≤ j → j < op + n → subBits (seenOf t j) (most j) = true := by
    intro n
    induction n with
    | zero => intro op _ j h1 h2; omega
    | succ n ih =>
      intro op h j h1 h2
      unfold wrongFrom at h
      by_cases hs : subBits (seenOf t op) (most op) = true
      · rw [if_pos hs] at h
        by_cases e : j = op
        · subst e; exact hs
        · exact ih (op + 1) h j (by omega) (by omega)
      · rw [if_neg hs] at h; cases h
  unfold wrong at h
  by_cases h0 : seenOf t 0 ≠ 0
  · rw [if_pos h0] at h; cases h
  · rw [if_neg h0] at h
    refine ⟨by simpa using h0, fun op h1 h2 => ?_⟩
    have h3 := hw 17 1 h op h1 (by omega)
    unfold subBits seenOf at h3
    simp only [Int.toNat_natCast, Bool.and_eq_true, decide_eq_true_eq, beq_iff_eq] at h3
    have h4 : (most op).toNat ≤ 7 := by
      unfold most all
      repeat' split
      all_goals decide
    have h5 : (t.getD op 0).toNat ≤ (t.getD op 0).toNat ||| (most op).toNat := Nat.left_le_or
    omega
/-- the first entries -/
def trunc (t : List Int) (k : Nat) : List Int := (List.range 18).map fun j => if j ≤ k then t.getD j 0 else 0
def lastTo (t : List Int) : Nat → Nat
  | 0 => 0
  | k + 1 => if t.getD (k + 1) 0 ≠ 0 then k + 1 else lastTo t k
theorem lastTo_le (t : List Int) : ∀ k, lastTo t k ≤ k
  | 0 => Nat.le_refl _
  | k + 1 => by unfold lastTo; split; omega; have := lastTo_le t k; omega
theorem trunc_succ0 {t : List Int} {k : Nat} (h : t.getD (k + 1) 0 = 0) : trunc t (k + 1) = trunc t k := by
  unfold trunc
  apply List.map_congr_left
  intro j _
  by_cases h1 : j ≤ k
  · rw [if_pos h1, if_pos (by omega)]
  · by_cases h2 : j = k + 1
    · rw [if_neg h1, if_pos (by omega), h2, h]
    · rw [if_neg h1, if_neg (by omega)]
theorem trunc_succ {t : List Int} {k : Nat} (hk : k < 17) : trunc t (k + 1) = (trunc t k).set (k + 1) (t.getD (k + 1) 0) := by
  unfold trunc
  apply List.ext_getElem?
  intro j
  rw [List.getElem?_map, List.getElem?_set]
  by_cases h18 : j < 18
  · rw [List.getElem?_range h18]
    by_cases h : k + 1 = j
    · subst h
      rw [if_pos rfl, if_pos (by simp; omega)]
      simp
    · rw [if_neg h, List.getElem?_map, List.getElem?_range h18]
      simp only [Option.map_some, Option.some.injEq]
      by_cases h1 : j ≤ k
      · rw [if_pos h1, if_pos (by omega)]
      · rw [if_neg h1, if_neg (by omega)]
  · rw [List.getElem?_eq_none (by simp; omega)]
    rw [if_neg (by omega), List.getElem?_eq_none (by simp; omega)]
    rfl
theorem trunc_all {t : List Int} (h : t.length = 18) : trunc t 17 = t := by
  unfold trunc
  apply List.ext_getElem?
  intro j
  rw [List.getElem?_map]
  by_cases h18 : j < 18
  · rw [List.getElem?_range h18]
    simp only [Option.map_some]
    rw [if_pos (by omega), List.getD_eq_getElem?_getD, List.getElem?_eq_getElem (by omega)]
    rfl
  · rw [List.getElem?_eq_none (by simp; omega), List.getElem?_eq_none (by omega)]
    rfl
theorem trunc_zero {t : List Int} (h : seenOf t 0 = 0) : trunc t 0 = zeros18 := by
  unfold trunc zeros18
  have h : t.getD 0 0 = 0 := h
  apply List.ext_getElem?
  intro j
  rw [List.getElem?_map, List.getElem?_replicate]
  by_cases h18 : j < 18
  · rw [List.getElem?_range h18, if_pos h18]
    simp only [Option.map_some]
    by_cases h1 : j ≤ 0
    · obtain rfl : j = 0 := by omega
      rw [if_pos h1, h]
    · rw [if_neg h1]
  · rw [List.getElem?_eq_none (by simp; omega), if_neg h18]
    rfl
theorem tline_of {t : List Int} {op : Nat} {n : Nat} {last : Nat} (h1 : 1 ≤ op) (h2 : op ≤ 17) (h3 : 1 ≤ n) (h4 : n ≤ 7) (h5 : last < op) :
    tline (opNames.getD (op - 1) [] ++ [32] ++ Lib.itoa (n : Int)) t last = (0, t.set op (n : Int), op) ∧ 10 ∉ opNames.getD (op - 1) [] ++ [32] ++ Lib.itoa (n : Int) := by
  obtain ⟨g1, g2, g3⟩ := names_good (op - 1) (by omega)
  obtain ⟨d1, d2, d3, d4⟩ := digits_good n h3 h4
  rw [show op - 1 + 1 = op by omega] at g3
  have hf : first 32 (opNames.getD (op - 1) [] ++ [32] ++ Lib.itoa (n : Int)) = (opNames.getD (op - 1) []).length := by
    rw [List.append_assoc]
    exact first_app g2
  refine ⟨?_, ?_⟩
  · unfold tline
    rw [hf]
    have e1 : (opNames.getD (op - 1) [] ++ [32] ++ Lib.itoa (n : Int)).take (opNames.getD (op - 1) []).length = opNames.getD (op - 1) [] := by rw [List.append_assoc, List.take_left']; rfl
    have e2 : (opNames.getD (op - 1) [] ++ [32] ++ Lib.itoa (n : Int)).drop ((opNames.getD (op - 1) []).length + 1) = Lib.itoa (n : Int) := by
      rw [List.drop_left']
      simp
    rw [e1, e2, g3, d1, if_neg (by simp), if_neg (by omega), if_pos ⟨d2, by rw [d3, d1], by rw [d3]; omega, h5⟩, d3]
  · rw [d1]
    simp only [List.mem_append, not_or]
    exact ⟨⟨g1, by decide⟩, d4⟩
theorem scan_text {t : List Int} (hw : wrong t = 0) (rest : List UInt8) : ∀ k, k ≤ 17 → tscan (ttextTo t k ++ rest) [] (trunc t 0) 0 = tscan rest [] (trunc t k) (lastTo t k)
  | 0, _ => rfl
  | k + 1, hk => by
    obtain ⟨_, hb⟩ := wrong_bits hw
    obtain ⟨b1, b2⟩ := hb (k + 1) (by omega) hk
    unfold ttextTo lastTo
    by_cases h0 : t.getD (k + 1) 0 = 0
    · rw [if_neg (by simpa using h0), if_neg (by simpa using h0), List.append_nil, scan_text hw rest k (by omega), trunc_succ0 h0]
    · rw [if_pos h0, if_pos h0, List.append_assoc, scan_text hw _ k (by omega)]
      obtain ⟨n, hn⟩ : ∃ n : Nat, t.getD (k + 1) 0 = n := ⟨(t.getD (k + 1) 0).toNat, by omega⟩
      obtain ⟨e1, e2⟩ := tline_of (t := trunc t k) (op := k + 1) (n := n) (last := lastTo t k) (by omega) hk (by omega) (by omega) (by have := lastTo_le t k; omega)
      rw [trunc_succ (by omega), hn]
      unfold tlineOf
      rw [List.append_assoc _ [10] rest, List.singleton_append, scan_line _ e2, List.nil_append, e1, if_pos rfl]
/-- a right table comes back from its text -/
theorem text_parse {t : List Int} (hl : t.length = 18) (hw : wrong t = 0) : tparse (ttext t) = (0, t) := by
  unfold tparse ttext
  have h := scan_text hw [] 17 (Nat.le_refl _)
  rw [List.append_nil, trunc_zero (wrong_bits hw).1, trunc_all hl] at h
  rw [h]
  unfold tscan tend
  rw [if_pos rfl, if_pos hw]
theorem textTo_set {t : List Int} {op : Nat} {n : Int} : ∀ k, k < op → ttextTo (t.set op n) k = ttextTo t k
  | 0, _ => rfl
  | k + 1, hk => by
    have e : (t.set op n).getD (k + 1) 0 = t.getD (k + 1) 0 := by rw [List.getD_eq_getElem?_getD, List.getD_eq_getElem?_getD, List.getElem?_set, if_neg (by omega)]
    unfold ttextTo
    rw [textTo_set k (by omega), e]
theorem textTo_zero {t : List Int} {b : Nat} (hz : ∀ j, b < j → t.getD j 0 = 0) : ∀ k, b ≤ k → ttextTo t k = ttextTo t b
  | 0, hk => by obtain rfl : b = 0 := by omega
                rfl
  | k + 1, hk => by
    by_cases e : b = k + 1
    · rw [e]
    · conv => lhs; unfold ttextTo
      rw [if_neg (by rw [hz (k + 1) (by omega)]; simp), List.append_nil, textTo_zero hz k (by omega)]
theorem text_set {t : List Int} {op last : Nat} {n : Int} (hl : t.length = 18) (h1 : last < op) (h2 : op ≤ 17) (hn : n ≠ 0) (hz : ∀ j, last < j → t.getD j 0 = 0) : ttext (t.set op n) = ttext t ++ tlineOf op n := by
  unfold ttext
  have hz' : ∀ j, op < j → (t.set op n).getD j 0 = 0 := fun j hj => by rw [List.getD_eq_getElem?_getD, List.getElem?_set, if_neg (by omega), ← List.getD_eq_getElem?_getD]; exact hz j (by omega)
  rw [textTo_zero hz' 17 h2, textTo_zero hz 17 (by omega)]
  obtain ⟨m, rfl⟩ : ∃ m, op = m + 1 := ⟨op - 1, by omega⟩
  have e : (t.set (m + 1) n).getD (m + 1) 0 = n := by rw [List.getD_eq_getElem?_getD, List.getElem?_set, if_pos rfl, if_pos (by omega)]; rfl
  conv => lhs; unfold ttextTo
  rw [e, if_pos hn, textTo_set m (by omega)]
  congr 1
  exact textTo_zero hz m (by omega)
theorem tline_ok {l : List UInt8} {t t' : List Int} {last last' : Nat} (h : tline l t last = (0, t', last')) (hl : t.length = 18) (hz : ∀ j, last < j → t.getD j 0 = 0) :
    t'.length = 18 ∧ (∀ j, last' < j → t'.getD j 0 = 0) ∧ last' ≤ 17 ∧ ttext t' = ttext t ++ l ++ [10] := by
  unfold tline at h
  by_cases c1 : first 32 l = l.length
  · rw [if_pos c1] at h; injection h with h; cases h
  rw [if_neg c1] at h
  by_cases c2 : opOf (l.take (first 32 l)) = 0
  · rw [if_pos c2] at h; injection h with h; cases h
  rw [if_neg c2] at h
  split at h
  case isFalse => injection h with h; cases h
  case isTrue hc =>
  obtain ⟨h1, h2, h3, h4⟩ := hc
  injection h with _ h
  injection h with e1 e2
  obtain ⟨o1, o2⟩ := opTo_name (l.take (first 32 l)) 17 (Nat.le_refl _)
  have o3 := o2 c2
  have hat := first_at (b := 32) (l := l) (by have := first_le 32 l; omega)
  subst e1 e2
  refine ⟨by simp [hl], fun j hj => ?_, o1, ?_⟩
  · rw [List.getD_eq_getElem?_getD, List.getElem?_set, if_neg (by omega), ← List.getD_eq_getElem?_getD]
    exact hz j (by omega)
  · rw [text_set hl h4 o1 (by omega) hz, List.append_assoc]
    congr 1
    unfold tlineOf
    have o4 : opNames.getD (opOf (l.take (first 32 l)) - 1) [] = l.take (first 32 l) := o3
    rw [o4, h2]
    conv => rhs; rw [hat]
    simp
theorem scan_ok : ∀ (s acc : List UInt8) {t x : List Int} {last : Nat}, t.length = 18 → (∀ j, last < j → t.getD j 0 = 0) → tscan s acc t last = (0, x) → x.length = 18 ∧ wrong x = 0 ∧ ttext x = ttext t ++ acc ++ s
  | [], acc, t, x, last, hl, hz, h => by
    unfold tscan at h
    by_cases c : acc = []
    · rw [if_pos c] at h
      unfold tend at h
      by_cases hw : wrong t = 0
      · rw [if_pos hw] at h
        injection h with _ h
        subst h c
        exact ⟨hl, hw, by simp⟩
      · rw [if_neg hw] at h; injection h with h; exact absurd h hw
    · rw [if_neg c] at h; injection h with h; cases h
  | c :: s, acc, t, x, last, hl, hz, h => by
    unfold tscan at h
    by_cases hc : c = 10
    · rw [if_pos hc] at h
      by_cases h0 : (tline acc t last).1 = 0
      · rw [if_pos h0] at h
        obtain ⟨e1, e2, _, e4⟩ := tline_ok (l := acc) (t := t) (last := last) (t' := (tline acc t last).2.1) (last' := (tline acc t last).2.2) (Prod.ext h0 rfl) hl hz
        obtain ⟨f1, f2, f3⟩ := scan_ok s [] e1 e2 h
        refine ⟨f1, f2, ?_⟩
        rw [f3, e4, hc]
        simp
      · rw [if_neg h0] at h; injection h with h; exact absurd h h0
    · rw [if_neg hc] at h
      obtain ⟨f1, f2, f3⟩ := scan_ok s (acc ++ [c]) hl hz h
      exact ⟨f1, f2, by rw [f3]; simp⟩
/-- a text that is read is its table's -/
theorem parse_text {s : List UInt8} {x : List Int} (h : tparse s = (0, x)) : x.length = 18 ∧ wrong x = 0 ∧ ttext x = s := by
  obtain ⟨h1, h2, h3⟩ := scan_ok s [] (t := zeros18) (last := 0) rfl (fun j _ => by unfold zeros18; rw [List.getD_eq_getElem?_getD, List.getElem?_replicate]; split <;> rfl) h
  exact ⟨h1, h2, by rw [h3]; rfl⟩
theorem scan_err : ∀ (s acc : List UInt8) {t : List Int} {last : Nat}, (tscan s acc t last).1 ≠ 0 → (tscan s acc t last).2 = zeros18
  | [], acc, t, last, h => by
    unfold tscan at h ⊢
    by_cases c : acc = []
    · rw [if_pos c] at h ⊢
      unfold tend at h ⊢
      by_cases hw : wrong t = 0
      · rw [if_pos hw] at h; exact absurd rfl h
      · rw [if_neg hw]
    · rw [if_neg c]
  | c :: s, acc, t, last, h => by
    unfold tscan at h ⊢
    by_cases hc : c = 10
    · rw [if_pos hc] at h ⊢
      by_cases h0 : (tline acc t last).1 = 0
      · rw [if_pos h0] at h ⊢
        exact scan_err s [] h
      · rw [if_neg h0]
    · rw [if_neg hc] at h ⊢
      exact scan_err s (acc ++ [c]) h
end Ev
