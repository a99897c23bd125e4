import Derived.Test.YtpbflgemhcaooaaDoorLib
/- An element of a slice that reads as a list. -/
namespace Go.Proofs.YtpbflgemhcaooaaDoor
open Go.RowKit
theorem flatMap_at {α β : Type} {size : Nat} (f : α → List β) (hf : ∀ a, (f a).length = size) : ∀ (l : List α) (k : Nat) (a : α) (j : Nat) (u : β), l[k]? = some a → (f a)[j]? = some u → (l.flatMap f)[k * size + j]? = some u
  | [], k, a, j, u, h, _ => by simp at h
  | x :: r, 0, a, j, u, h, hu => by
    simp at h
    subst h
    have hl := hf x
    simp only [List.flatMap_cons, Nat.zero_mul, Nat.zero_add]
    have hj : j < (f x).length := by
      rcases Nat.lt_or_ge j (f x).length with h1 | h1
      · exact h1
      · rw [List.getElem?_eq_none h1] at hu; cases hu
    rw [List.getElem?_append_left hj]
    exact hu
  | x :: r, k + 1, a, j, u, h, hu => by
    have ih := flatMap_at f hf r k a j u (by simpa using h) hu
    have hl := hf x
    simp only [List.flatMap_cons]
    rw [List.getElem?_append_right (by rw [hl, Nat.succ_mul]; omega)]
    have : (k + 1) * size + j - (f x).length = k * size + j := by rw [hl, Nat.succ_mul]; omega
    rw [this]
    exact ih
theorem SL.form {w : World} {B size n : Nat} {v : Value} {xs : List Value} (h : SL w B size v n xs) : ∃ (A : Option Addr) (c : Nat), v = .slice A n c ∧ n ≤ c ∧ c ≤ maxLen := by
  obtain ⟨_, A, c, rfl, h1, h2, _⟩ := h
  exact ⟨A, c, rfl, h1, h2⟩
/-- the slice's row, where there is an element -/
theorem SL.row {w : World} {B size n : Nat} {v : Value} {xs : List Value} (h : SL w B size v n xs) (hn : 0 < n) :
    ∃ b o c, v = .slice (some ⟨b, o, none⟩) n c ∧ b < B ∧ n ≤ c ∧ c ≤ maxLen ∧ ∀ j u, xs[j]? = some u → w.cell? ⟨b, o + j, none⟩ = some u := by
  obtain ⟨_, A, c, rfl, h1, h2, _, h4⟩ := h
  obtain ⟨b, o, rfl, hb, hc⟩ := h4 hn
  exact ⟨b, o, c, rfl, hb, h1, h2, hc⟩
theorem RInts.at_ {w : World} {B : Nat} {v : Value} {l : List Int} (h : RInts w B v l) {k : Nat} {x : Int} (hk : l[k]? = some x) :
    ∃ b o c, v = .slice (some ⟨b, o, none⟩) l.length c ∧ b < B ∧ k < l.length ∧ l.length ≤ c ∧ c ≤ maxLen ∧ w.cell? ⟨b, o + k, none⟩ = some (.int .i64 x) := by
  have hlt : k < l.length := (List.getElem?_eq_some_iff.1 hk).1
  obtain ⟨b, o, c, e, hb, h1, h2, hc⟩ := SL.row h (by omega)
  exact ⟨b, o, c, e, hb, hlt, h1, h2, hc k _ (by simp [hk])⟩
theorem RBools.at_ {w : World} {B : Nat} {v : Value} {l : List Bool} (h : RBools w B v l) {k : Nat} {x : Bool} (hk : l[k]? = some x) :
    ∃ b o c, v = .slice (some ⟨b, o, none⟩) l.length c ∧ b < B ∧ k < l.length ∧ l.length ≤ c ∧ c ≤ maxLen ∧ w.cell? ⟨b, o + k, none⟩ = some (.bool x) := by
  have hlt : k < l.length := (List.getElem?_eq_some_iff.1 hk).1
  obtain ⟨b, o, c, e, hb, h1, h2, hc⟩ := SL.row h (by omega)
  exact ⟨b, o, c, e, hb, hlt, h1, h2, hc k _ (by simp [hk])⟩
theorem RCode.at_ {w : World} {B : Nat} {v : Value} {l : List Ev.Instr} (h : RCode w B v l) {k : Nat} {i : Ev.Instr} (hk : l[k]? = some i) :
    ∃ b o c, v = .slice (some ⟨b, o, none⟩) l.length c ∧ b < B ∧ k < l.length ∧ l.length ≤ c ∧ c ≤ maxLen ∧ w.cell? ⟨b, o + k * 6, none⟩ = some (.int .i64 i.op) ∧ w.cell? ⟨b, o + k * 6 + 1, none⟩ = some (.int .i64 i.d) ∧
      w.cell? ⟨b, o + k * 6 + 2, none⟩ = some (.int .i64 i.a) ∧ w.cell? ⟨b, o + k * 6 + 3, none⟩ = some (.int .i64 i.b) ∧ w.cell? ⟨b, o + k * 6 + 4, none⟩ = some (.int .i64 i.c) ∧ w.cell? ⟨b, o + k * 6 + 5, none⟩ = some (.int .i64 i.imm) := by
  have hlt : k < l.length := (List.getElem?_eq_some_iff.1 hk).1
  obtain ⟨b, o, c, e, hb, h1, h2, hc⟩ := SL.row h (by omega)
  have hj := fun j u (hu : (cellsI i)[j]? = some u) => hc (k * 6 + j) u (flatMap_at cellsI (fun _ => rfl) l k i j u hk hu)
  simp only [← Nat.add_assoc] at hj
  exact ⟨b, o, c, e, hb, hlt, h1, h2, hj 0 _ rfl, hj 1 _ rfl, hj 2 _ rfl, hj 3 _ rfl, hj 4 _ rfl, hj 5 _ rfl⟩
theorem RVars.at_ {w : World} {B : Nat} {v : Value} {l : List Ev.Vr} (h : RVars w B v l) {k : Nat} {i : Ev.Vr} (hk : l[k]? = some i) :
    ∃ b o c, v = .slice (some ⟨b, o, none⟩) l.length c ∧ b < B ∧ k < l.length ∧ l.length ≤ c ∧ c ≤ maxLen ∧ w.cell? ⟨b, o + k * 3, none⟩ = some (.string ⟨i.name.toArray⟩) ∧ w.cell? ⟨b, o + k * 3 + 1, none⟩ = some (.bool i.secret) ∧
      w.cell? ⟨b, o + k * 3 + 2, none⟩ = some (.int .i64 i.size) := by
  have hlt : k < l.length := (List.getElem?_eq_some_iff.1 hk).1
  obtain ⟨b, o, c, e, hb, h1, h2, hc⟩ := SL.row h (by omega)
  have hj := fun j u (hu : (cellsV i)[j]? = some u) => hc (k * 3 + j) u (flatMap_at cellsV (fun _ => rfl) l k i j u hk hu)
  simp only [← Nat.add_assoc] at hj
  exact ⟨b, o, c, e, hb, hlt, h1, h2, hj 0 _ rfl, hj 1 _ rfl, hj 2 _ rfl⟩
end Go.Proofs.YtpbflgemhcaooaaDoor
