import Derived.Test.YtljcgcllhcdleaaProg
import Derived.Test.YtljcgcllhcdleaaMm11
import Derived.WalkSpells
import Derived.WalkLawsBesides
import Derived.Handy
import Derived.Lib.Hide
import Derived.BigQuiet
import Derived.BigRegion
import Derived.StillTailTactics
import Derived.Deep.QuietTactic
namespace Go.Proofs.Ytljcgcllhcdleaa
open Go.RowKit
set_option linter.unusedSimpArgs false
set_option linter.unusedVariables false

theorem wraps_i64_32 (n : Int) (h₀ : 0 ≤ n) (h₁ : n < 2 ^ 32) : IntKind.i64.wrap n = n := by rw [IntKind.wrap_i64]; omega
theorem join4 (b4 b5 b6 b7 : Int) (h4 : 0 ≤ b4) (h4' : b4 ≤ 255) (h5 : 0 ≤ b5) (h5' : b5 ≤ 255) (h6 : 0 ≤ b6) (h6' : b6 ≤ 255) (h7 : 0 ≤ b7) (h7' : b7 ≤ 255) :
    bits BinOp.or IntKind.i64 (bits BinOp.or IntKind.i64 (bits BinOp.or IntKind.i64 (b4 * 16777216) (b5 * 65536)) (b6 * 256)) b7 = Ev.ofBe b4 b5 b6 b7 := by
  rw [bits_join .i64 32 (by decide) wraps_i64_32 24 (b4 * 16777216) (b5 * 65536) (by omega) (by omega) (by omega) (by omega) (by omega) (by omega),
    bits_join .i64 32 (by decide) wraps_i64_32 16 (b4 * 16777216 + b5 * 65536) (b6 * 256) (by omega) (by omega) (by omega) (by omega) (by omega) (by omega),
    bits_join .i64 32 (by decide) wraps_i64_32 8 (b4 * 16777216 + b5 * 65536 + b6 * 256) b7 (by omega) (by omega) (by omega) (by omega) (by omega) (by omega)]
  rfl
theorem parse_kind {b0 b1 b2 b3 b4 b5 b6 b7 : Int} (h : b0 < 1 ∨ 23 < b0) : Ev.parseErr [b0, b1, b2, b3, b4, b5, b6, b7] = 1 ∧ Ev.parseOf [b0, b1, b2, b3, b4, b5, b6, b7] = ⟨0, 0, 0, 0, 0, 0⟩ := by
  have e : Ev.parseErr [b0, b1, b2, b3, b4, b5, b6, b7] = 1 := by simp only [Ev.parseErr]; rw [if_pos h]
  exact ⟨e, by unfold Ev.parseOf; rw [e]; rfl⟩
theorem parse_range {b0 b1 b2 b3 b4 b5 b6 b7 : Int} (h : b0 = 13) (k : 255 < Ev.ofBe b4 b5 b6 b7) : Ev.parseErr [b0, b1, b2, b3, b4, b5, b6, b7] = 3 ∧ Ev.parseOf [b0, b1, b2, b3, b4, b5, b6, b7] = ⟨0, 0, 0, 0, 0, 0⟩ := by
  have e : Ev.parseErr [b0, b1, b2, b3, b4, b5, b6, b7] = 3 := by simp only [Ev.parseErr]; rw [if_neg (by omega), if_pos ⟨h, k⟩]
  exact ⟨e, by unfold Ev.parseOf; rw [e]; rfl⟩
theorem parse_sel {b0 b1 b2 b3 b4 b5 b6 b7 : Int} (h : b0 = 13) (k : Ev.ofBe b4 b5 b6 b7 ≤ 255) : Ev.parseErr [b0, b1, b2, b3, b4, b5, b6, b7] = 0 ∧ Ev.parseOf [b0, b1, b2, b3, b4, b5, b6, b7] = ⟨b0, b1, b2, b3, Ev.ofBe b4 b5 b6 b7, 0⟩ := by
  have e : Ev.parseErr [b0, b1, b2, b3, b4, b5, b6, b7] = 0 := by simp only [Ev.parseErr]; rw [if_neg (by omega), if_neg (by omega)]
  exact ⟨e, by unfold Ev.parseOf; rw [e, if_neg (by decide)]; simp only [h, if_true]⟩
theorem parse_imm {b0 b1 b2 b3 b4 b5 b6 b7 : Int} (h : b0 ≠ 13) (k : ¬ (b0 < 1 ∨ 23 < b0)) : Ev.parseErr [b0, b1, b2, b3, b4, b5, b6, b7] = 0 ∧ Ev.parseOf [b0, b1, b2, b3, b4, b5, b6, b7] = ⟨b0, b1, b2, b3, 0, Ev.ofBe b4 b5 b6 b7⟩ := by
  have e : Ev.parseErr [b0, b1, b2, b3, b4, b5, b6, b7] = 0 := by simp only [Ev.parseErr]; rw [if_neg k, if_neg (by omega)]
  exact ⟨e, by unfold Ev.parseOf; rw [e, if_neg (by decide)]; simp only [h, if_false]⟩

set_option maxHeartbeats 1000000 in
theorem parse_eight (b0 b1 b2 b3 b4 b5 b6 b7 : Int) (bk o c : Nat) (w : World) (h0 : 0 ≤ b0) (h0' : b0 ≤ 255) (h1 : 0 ≤ b1) (h1' : b1 ≤ 255) (h2 : 0 ≤ b2) (h2' : b2 ≤ 255) (h3 : 0 ≤ b3) (h3' : b3 ≤ 255)
    (h4 : 0 ≤ b4) (h4' : b4 ≤ 255) (h5 : 0 ≤ b5) (h5' : b5 ≤ 255) (h6 : 0 ≤ b6) (h6' : b6 ≤ 255) (h7 : 0 ≤ b7) (h7' : b7 ≤ 255)
    (c0 : w.cell? ⟨bk, o, none⟩ = some (.int .u8 b0)) (c1 : w.cell? ⟨bk, o + 1, none⟩ = some (.int .u8 b1)) (c2 : w.cell? ⟨bk, o + 2, none⟩ = some (.int .u8 b2)) (c3 : w.cell? ⟨bk, o + 3, none⟩ = some (.int .u8 b3))
    (c4 : w.cell? ⟨bk, o + 4, none⟩ = some (.int .u8 b4)) (c5 : w.cell? ⟨bk, o + 5, none⟩ = some (.int .u8 b5)) (c6 : w.cell? ⟨bk, o + 6, none⟩ = some (.int .u8 b6)) (c7 : w.cell? ⟨bk, o + 7, none⟩ = some (.int .u8 b7)) :
    Calls Try.prog 75 #[.slice (some ⟨bk, o, none⟩) 8 c] w fun e w' => e = .returned (.tuple #[.agg #[.int .i64 (Ev.parseOf [b0, b1, b2, b3, b4, b5, b6, b7]).op, .int .i64 (Ev.parseOf [b0, b1, b2, b3, b4, b5, b6, b7]).d, .int .i64 (Ev.parseOf [b0, b1, b2, b3, b4, b5, b6, b7]).a, .int .i64 (Ev.parseOf [b0, b1, b2, b3, b4, b5, b6, b7]).b, .int .i64 (Ev.parseOf [b0, b1, b2, b3, b4, b5, b6, b7]).c, .int .i64 (Ev.parseOf [b0, b1, b2, b3, b4, b5, b6, b7]).imm], .int .i64 (Ev.parseErr [b0, b1, b2, b3, b4, b5, b6, b7])]) ∧ Below w.heap.size w w' := by
  have lt := World.block_lt_of_cell? w _ c0
  simp only at lt
  have hj := join4 b4 b5 b6 b7 h4 h4' h5 h5' h6 h6' h7 h7'
  have hn0 : 0 ≤ Ev.ofBe b4 b5 b6 b7 := by unfold Ev.ofBe; omega
  have hk1 := @parse_kind b0 b1 b2 b3 b4 b5 b6 b7
  have hk2 := @parse_range b0 b1 b2 b3 b4 b5 b6 b7
  have hk3 := @parse_sel b0 b1 b2 b3 b4 b5 b6 b7
  have hk4 := @parse_imm b0 b1 b2 b3 b4 b5 b6 b7
  generalize Ev.ofBe b4 b5 b6 b7 = n at *
  generalize Ev.parseErr [b0, b1, b2, b3, b4, b5, b6, b7] = er at *
  generalize Ev.parseOf [b0, b1, b2, b3, b4, b5, b6, b7] = ins at *
  have HK := Lib.hid (And.intro hk1 (And.intro hk2 (And.intro hk3 hk4)))
  clear hk1 hk2 hk3 hk4
  go_enter Try.func75, Try.ntmps75
  go_wp2
  go_region
  go_wp2
  go_quiet (fail)
  go_wp2
  all_goals
    go_returns
    (try simp only [bne_iff_ne, ne_eq, bne_eq_false_iff_eq, beq_iff_eq, beq_eq_false_iff_ne] at *)
    refine ⟨?_, by (repeat' (first | (with_reducible exact Below.refl _ _) | (with_reducible assumption) | (with_reducible refine Below.alloc ?_ ?_ _) | (with_reducible refine below_drewN ?_ _) | (with_reducible refine Below.drew ?_) | (with_reducible refine Below.setCell ?_ ?_ _) | (with_reducible refine Below.trans ?_ (Below.mono (by with_reducible assumption) ?_)) | go_size))⟩
    obtain ⟨hk1, hk2, hk3, hk4⟩ := HK.out
    first
    | (have e1 : b0 < 1 ∨ 23 < b0 := by omega
       obtain ⟨rfl, rfl⟩ := hk1 e1; rfl)
    | (have e1 : b0 = 13 := by omega
       have e2 : 255 < n := by omega
       obtain ⟨rfl, rfl⟩ := hk2 e1 e2; rfl)
    | (have e1 : b0 = 13 := by omega
       have e2 : n ≤ 255 := by omega
       obtain ⟨rfl, rfl⟩ := hk3 e1 e2; first | rfl | (rw [e1]))
    | (have e1 : ¬ b0 = 13 := by omega
       have e2 : ¬ (b0 < 1 ∨ 23 < b0) := by omega
       obtain ⟨rfl, rfl⟩ := hk4 e1 e2; rfl)
    | skip
  all_goals trace_state
end Go.Proofs.Ytljcgcllhcdleaa
namespace Go.Proofs.Ytljcgcllhcdleaa
open Go.RowKit
set_option linter.unusedSimpArgs false
set_option linter.unusedVariables false

set_option maxHeartbeats 1000000 in
theorem refParse_eight (b0 b1 b2 b3 b4 b5 b6 b7 : Int) (bk o c : Nat) (w : World) (hc8 : 8 ≤ c) (h0 : 0 ≤ b0) (h0' : b0 ≤ 255) (h1 : 0 ≤ b1) (h1' : b1 ≤ 255) (h2 : 0 ≤ b2) (h2' : b2 ≤ 255) (h3 : 0 ≤ b3) (h3' : b3 ≤ 255)
    (h4 : 0 ≤ b4) (h4' : b4 ≤ 255) (h5 : 0 ≤ b5) (h5' : b5 ≤ 255) (h6 : 0 ≤ b6) (h6' : b6 ≤ 255) (h7 : 0 ≤ b7) (h7' : b7 ≤ 255)
    (c0 : w.cell? ⟨bk, o, none⟩ = some (.int .u8 b0)) (c1 : w.cell? ⟨bk, o + 1, none⟩ = some (.int .u8 b1)) (c2 : w.cell? ⟨bk, o + 2, none⟩ = some (.int .u8 b2)) (c3 : w.cell? ⟨bk, o + 3, none⟩ = some (.int .u8 b3))
    (c4 : w.cell? ⟨bk, o + 4, none⟩ = some (.int .u8 b4)) (c5 : w.cell? ⟨bk, o + 5, none⟩ = some (.int .u8 b5)) (c6 : w.cell? ⟨bk, o + 6, none⟩ = some (.int .u8 b6)) (c7 : w.cell? ⟨bk, o + 7, none⟩ = some (.int .u8 b7)) :
    Calls Try.prog 76 #[.slice (some ⟨bk, o, none⟩) 8 c] w fun e w' => e = .returned (.tuple #[.agg #[.int .i64 (Ev.parseOf [b0, b1, b2, b3, b4, b5, b6, b7]).op, .int .i64 (Ev.parseOf [b0, b1, b2, b3, b4, b5, b6, b7]).d, .int .i64 (Ev.parseOf [b0, b1, b2, b3, b4, b5, b6, b7]).a, .int .i64 (Ev.parseOf [b0, b1, b2, b3, b4, b5, b6, b7]).b, .int .i64 (Ev.parseOf [b0, b1, b2, b3, b4, b5, b6, b7]).c, .int .i64 (Ev.parseOf [b0, b1, b2, b3, b4, b5, b6, b7]).imm], .int .i64 (Ev.parseErr [b0, b1, b2, b3, b4, b5, b6, b7])]) ∧ Below w.heap.size w w' := by
  have lt := World.block_lt_of_cell? w _ c0
  simp only at lt
  have hj1 : Ev.ofBe b4 b5 b6 b7 ≤ ((b4 * 256 + b5) * 256 + b6) * 256 + b7 := by unfold Ev.ofBe; omega
  have hj2 : ((b4 * 256 + b5) * 256 + b6) * 256 + b7 ≤ Ev.ofBe b4 b5 b6 b7 := by unfold Ev.ofBe; omega
  have hn0 : 0 ≤ Ev.ofBe b4 b5 b6 b7 := by unfold Ev.ofBe; omega
  have hk1 := @parse_kind b0 b1 b2 b3 b4 b5 b6 b7
  have hk2 := @parse_range b0 b1 b2 b3 b4 b5 b6 b7
  have hk3 := @parse_sel b0 b1 b2 b3 b4 b5 b6 b7
  have hk4 := @parse_imm b0 b1 b2 b3 b4 b5 b6 b7
  generalize Ev.ofBe b4 b5 b6 b7 = n at *
  generalize Ev.parseErr [b0, b1, b2, b3, b4, b5, b6, b7] = er at *
  generalize Ev.parseOf [b0, b1, b2, b3, b4, b5, b6, b7] = ins at *
  have HK := Lib.hid (And.intro hk1 (And.intro hk2 (And.intro hk3 hk4)))
  clear hk1 hk2 hk3 hk4
  go_enter Try.func76, Try.ntmps76
  go_wp2
  any_goals (go_rounds 5)
  any_goals (go_region; go_wp2)
  all_goals
    go_returns
    (try simp only [bne_iff_ne, ne_eq, bne_eq_false_iff_eq, beq_iff_eq, beq_eq_false_iff_ne] at *)
    refine ⟨?_, by (repeat' (first | (with_reducible exact Below.refl _ _) | (with_reducible assumption) | (with_reducible refine Below.alloc ?_ ?_ _) | (with_reducible refine below_drewN ?_ _) | (with_reducible refine Below.drew ?_) | (with_reducible refine Below.setCell ?_ ?_ _) | (with_reducible refine Below.trans ?_ (Below.mono (by with_reducible assumption) ?_)) | go_size))⟩
    have e3 : (((b4 * 256 + b5) * 256 + b6) * 256 + b7) = n := by omega
    obtain ⟨hk1, hk2, hk3, hk4⟩ := HK.out
    first
    | (have e1 : b0 < 1 ∨ 23 < b0 := by omega
       obtain ⟨rfl, rfl⟩ := hk1 e1; rfl)
    | (have e1 : b0 = 13 := by omega
       have e2 : 255 < n := by omega
       obtain ⟨rfl, rfl⟩ := hk2 e1 e2; rfl)
    | (have e1 : b0 = 13 := by omega
       have e2 : n ≤ 255 := by omega
       obtain ⟨rfl, rfl⟩ := hk3 e1 e2; first | rfl | (rw [e1, e3]) | (rw [e3]))
    | (have e1 : ¬ b0 = 13 := by omega
       have e2 : ¬ (b0 < 1 ∨ 23 < b0) := by omega
       obtain ⟨rfl, rfl⟩ := hk4 e1 e2; first | rfl | (rw [e3]))

theorem eight {b : List Int} (h : b.length = 8) : ∃ b0 b1 b2 b3 b4 b5 b6 b7, b = [b0, b1, b2, b3, b4, b5, b6, b7] := by
  match b, h with
  | [b0, b1, b2, b3, b4, b5, b6, b7], _ => exact ⟨_, _, _, _, _, _, _, _, rfl⟩
theorem not_eight {b : List Int} (h : b.length ≠ 8) : Ev.parseErr b = 2 ∧ Ev.parseOf b = ⟨0, 0, 0, 0, 0, 0⟩ := by
  have e : Ev.parseErr b = 2 := by
    unfold Ev.parseErr
    split
    · exact absurd rfl h
    · rfl
  exact ⟨e, by unfold Ev.parseOf; rw [e]; rfl⟩

set_option maxHeartbeats 1000000 in
theorem parse_any (b : List Int) (v : Value) (w : World) (h : RBytes w w.heap.size v b) (hb : ∀ x ∈ b, 0 ≤ x ∧ x ≤ 255) :
    Calls Try.prog 75 #[v] w fun e w' => e = .returned (.tuple #[.agg #[.int .i64 (Ev.parseOf b).op, .int .i64 (Ev.parseOf b).d, .int .i64 (Ev.parseOf b).a, .int .i64 (Ev.parseOf b).b, .int .i64 (Ev.parseOf b).c, .int .i64 (Ev.parseOf b).imm], .int .i64 (Ev.parseErr b)]) ∧ Below w.heap.size w w' := by
  by_cases h8 : b.length = 8
  · obtain ⟨b0, b1, b2, b3, b4, b5, b6, b7, rfl⟩ := eight h8
    obtain ⟨_, A, c, rfl, hc, _, _, hx⟩ := h
    obtain ⟨bk, o, rfl, _, hcell⟩ := hx (by simp)
    simp only [List.mem_cons, List.not_mem_nil, or_false, forall_eq_or_imp, forall_eq] at hb
    obtain ⟨⟨x0, y0⟩, ⟨x1, y1⟩, ⟨x2, y2⟩, ⟨x3, y3⟩, ⟨x4, y4⟩, ⟨x5, y5⟩, ⟨x6, y6⟩, ⟨x7, y7⟩⟩ := hb
    exact parse_eight b0 b1 b2 b3 b4 b5 b6 b7 bk o c w x0 y0 x1 y1 x2 y2 x3 y3 x4 y4 x5 y5 x6 y6 x7 y7 (hcell 0 _ rfl) (hcell 1 _ rfl) (hcell 2 _ rfl) (hcell 3 _ rfl) (hcell 4 _ rfl) (hcell 5 _ rfl) (hcell 6 _ rfl) (hcell 7 _ rfl)
  · obtain ⟨e1, e2⟩ := not_eight h8
    rw [e1, e2]
    obtain ⟨_, A, c, rfl, _⟩ := h
    have hne : (((b.length : Nat) : Int) != 8) = true := by rw [bne_iff_ne]; omega
    clear e1 e2 h8 hb
    go_enter Try.func75, Try.ntmps75
    go_wp2
    go_returns
    exact ⟨rfl, by (repeat' (first | (with_reducible exact Below.refl _ _) | (with_reducible assumption) | (with_reducible refine Below.alloc ?_ ?_ _) | (with_reducible refine below_drewN ?_ _) | (with_reducible refine Below.drew ?_) | (with_reducible refine Below.setCell ?_ ?_ _) | (with_reducible refine Below.trans ?_ (Below.mono (by with_reducible assumption) ?_)) | go_size))⟩

set_option maxHeartbeats 1000000 in
theorem refParse_any (b : List Int) (v : Value) (w : World) (h : RBytes w w.heap.size v b) (hb : ∀ x ∈ b, 0 ≤ x ∧ x ≤ 255) :
    Calls Try.prog 76 #[v] w fun e w' => e = .returned (.tuple #[.agg #[.int .i64 (Ev.parseOf b).op, .int .i64 (Ev.parseOf b).d, .int .i64 (Ev.parseOf b).a, .int .i64 (Ev.parseOf b).b, .int .i64 (Ev.parseOf b).c, .int .i64 (Ev.parseOf b).imm], .int .i64 (Ev.parseErr b)]) ∧ Below w.heap.size w w' := by
  by_cases h8 : b.length = 8
  · obtain ⟨b0, b1, b2, b3, b4, b5, b6, b7, rfl⟩ := eight h8
    obtain ⟨_, A, c, rfl, hc, _, _, hx⟩ := h
    obtain ⟨bk, o, rfl, _, hcell⟩ := hx (by simp)
    simp only [List.mem_cons, List.not_mem_nil, or_false, forall_eq_or_imp, forall_eq] at hb
    obtain ⟨⟨x0, y0⟩, ⟨x1, y1⟩, ⟨x2, y2⟩, ⟨x3, y3⟩, ⟨x4, y4⟩, ⟨x5, y5⟩, ⟨x6, y6⟩, ⟨x7, y7⟩⟩ := hb
    exact refParse_eight b0 b1 b2 b3 b4 b5 b6 b7 bk o c w hc x0 y0 x1 y1 x2 y2 x3 y3 x4 y4 x5 y5 x6 y6 x7 y7 (hcell 0 _ rfl) (hcell 1 _ rfl) (hcell 2 _ rfl) (hcell 3 _ rfl) (hcell 4 _ rfl) (hcell 5 _ rfl) (hcell 6 _ rfl) (hcell 7 _ rfl)
  · obtain ⟨e1, e2⟩ := not_eight h8
    rw [e1, e2]
    obtain ⟨_, A, c, rfl, _⟩ := h
    have hne : (((b.length : Nat) : Int) != 8) = true := by rw [bne_iff_ne]; omega
    clear e1 e2 h8 hb
    go_enter Try.func76, Try.ntmps76
    go_wp2
    go_returns
    exact ⟨rfl, by (repeat' (first | (with_reducible exact Below.refl _ _) | (with_reducible assumption) | (with_reducible refine Below.alloc ?_ ?_ _) | (with_reducible refine below_drewN ?_ _) | (with_reducible refine Below.drew ?_) | (with_reducible refine Below.setCell ?_ ?_ _) | (with_reducible refine Below.trans ?_ (Below.mono (by with_reducible assumption) ?_)) | go_size))⟩
end Go.Proofs.Ytljcgcllhcdleaa
