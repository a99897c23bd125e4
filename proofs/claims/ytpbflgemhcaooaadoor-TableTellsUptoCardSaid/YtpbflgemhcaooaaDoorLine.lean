import Derived.Test.YtpbflgemhcaooaaDoorAt
import Derived.Test.YtpbflgemhcaooaaDoorFlat
/- The row of a slice, its elements by number. -/
namespace Go.Proofs.YtpbflgemhcaooaaDoor
open Go.RowKit
theorem RBools.row {w : World} {B : Nat} {v : Value} {l : List Bool} (h : RBools w B v l) (hn : 0 < l.length) :
    ∃ b o c, v = .slice (some ⟨b, o, none⟩) l.length c ∧ b < B ∧ l.length ≤ c ∧ c ≤ maxLen ∧ ∀ k : Nat, k < l.length → w.cell? ⟨b, o + k, none⟩ = some (.bool (Ev.sec l k)) := by
  obtain ⟨b, o, c, e, hb, h1, h2, hc⟩ := SL.row h hn
  exact ⟨b, o, c, e, hb, h1, h2, fun k hk => hc k _ (by simp [Ev.sec, hk])⟩
theorem RInts.row {w : World} {B : Nat} {v : Value} {l : List Int} (h : RInts w B v l) (hn : 0 < l.length) :
    ∃ b o c, v = .slice (some ⟨b, o, none⟩) l.length c ∧ b < B ∧ l.length ≤ c ∧ c ≤ maxLen ∧ ∀ k : Nat, k < l.length → w.cell? ⟨b, o + k, none⟩ = some (.int .i64 (Ev.val l k)) := by
  obtain ⟨b, o, c, e, hb, h1, h2, hc⟩ := SL.row h hn
  exact ⟨b, o, c, e, hb, h1, h2, fun k hk => hc k _ (by simp [Ev.val, hk])⟩
theorem RVars.row {w : World} {B : Nat} {v : Value} {l : List Ev.Vr} (h : RVars w B v l) (hn : 0 < l.length) :
    ∃ b o c, v = .slice (some ⟨b, o, none⟩) l.length c ∧ b < B ∧ l.length ≤ c ∧ c ≤ maxLen ∧ ∀ k : Nat, k < l.length →
      w.cell? ⟨b, o + k * 3, none⟩ = some (.string ⟨(l.getD k default).name.toArray⟩) ∧ w.cell? ⟨b, o + k * 3 + 1, none⟩ = some (.bool (Ev.arrSec l k)) ∧ w.cell? ⟨b, o + k * 3 + 2, none⟩ = some (.int .i64 (l.getD k default).size) := by
  obtain ⟨b, o, c, e, hb, h1, h2, hc⟩ := SL.row h hn
  refine ⟨b, o, c, e, hb, h1, h2, fun k hk => ?_⟩
  have hx : l[k]? = some (l.getD k default) := by simp [hk]
  have hj := fun j u (hu : (cellsV (l.getD k default))[j]? = some u) => hc (k * 3 + j) u (flatMap_at cellsV (fun _ => rfl) l k _ j u hx hu)
  simp only [← Nat.add_assoc] at hj
  exact ⟨hj 0 _ rfl, hj 1 _ (by simp [cellsV, Ev.arrSec]), hj 2 _ rfl⟩
theorem RCode.row {w : World} {B : Nat} {v : Value} {l : List Ev.Instr} (h : RCode w B v l) (hn : 0 < l.length) :
    ∃ b o c, v = .slice (some ⟨b, o, none⟩) l.length c ∧ b < B ∧ l.length ≤ c ∧ c ≤ maxLen ∧ ∀ k i, l[k]? = some i →
      w.cell? ⟨b, o + k * 6, none⟩ = some (.int .i64 i.op) ∧ w.cell? ⟨b, o + k * 6 + 1, none⟩ = some (.int .i64 i.d) ∧
      w.cell? ⟨b, o + k * 6 + 2, none⟩ = some (.int .i64 i.a) ∧ w.cell? ⟨b, o + k * 6 + 3, none⟩ = some (.int .i64 i.b) ∧ w.cell? ⟨b, o + k * 6 + 4, none⟩ = some (.int .i64 i.c) ∧ w.cell? ⟨b, o + k * 6 + 5, none⟩ = some (.int .i64 i.imm) := by
  obtain ⟨b, o, c, e, hb, h1, h2, hc⟩ := SL.row h hn
  refine ⟨b, o, c, e, hb, h1, h2, fun k i hk => ?_⟩
  have hj := fun j u (hu : (cellsI i)[j]? = some u) => hc (k * 6 + j) u (flatMap_at cellsI (fun _ => rfl) l k i j u hk hu)
  simp only [← Nat.add_assoc] at hj
  exact ⟨hj 0 _ rfl, hj 1 _ rfl, hj 2 _ rfl, hj 3 _ rfl, hj 4 _ rfl, hj 5 _ rfl⟩
end Go.Proofs.YtpbflgemhcaooaaDoor
