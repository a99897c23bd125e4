import Derived.Test.YtbanhnoggcddjaaProg
import Derived.Test.YtbanhnoggcddjaaLib
import Derived.WalkSpells
import Derived.WalkLawsBesides
import Derived.Handy
import Derived.Lib.Hide
import Derived.BigQuiet
import Derived.Deep.QuietTactic
namespace Go.Proofs.Ytbanhnoggcddjaa
open Go.RowKit
set_option linter.unusedSimpArgs false
set_option linter.unusedVariables false
def namesL : List Int := [1, 2, 3, 4, 5, 6, 7, 8, 9, 10, 11, 12, 13, 14, 15, 16, 17, 18, 19, 20, 21, 22, 23, 1, 2, 4, 1, 2, 3, 4, 5, 1, 2, 3, 4, 5, 6, 1200, 4, 3, 8, 6, 8, 300, 24, 12000, 120, 4294967295]

theorem namesL_at {j : Nat} (h : j < 48) : ((namesL.map (Value.int .i64)).toArray)[j]? = some (.int .i64 (namesL.getD j 0)) := by
  have hl : namesL.length = 48 := rfl
  have : j < namesL.length := by rw [hl]; exact h
  simp [List.getD, this]

set_option maxHeartbeats 2000000 in
theorem names_walk (w : World) :
    Calls Try.prog 13 #[] w fun e w' => e = .returned (.bool true) ∧ Below w.heap.size w w' := by
  go_enter Try.func13, Try.ntmps13
  go_wp2
  go_rounds 14
  go_loopw [23] (fun i wr => ∃ k : Nat, k ≤ 48 ∧ i = .int .i64 k ∧ (∀ j, j < 48 → wr.cell? ⟨w.heap.size + 1, j, none⟩ = some (.int .i64 (namesL.getD j 0)) ∧ wr.cell? ⟨w.heap.size + 1 + 1, j, none⟩ = some (.int .i64 (namesL.getD j 0))) ∧ Below w.heap.size w wr)
    (fun i _ => 48 - (intOf i).toNat)
  case atStart =>
    refine ⟨0, by omega, rfl, fun j hj => ⟨?_, ?_⟩, by (repeat' (first | (with_reducible exact Below.refl _ _) | (with_reducible assumption) | (with_reducible refine Below.alloc ?_ ?_ _) | (with_reducible refine below_drewN ?_ _) | (with_reducible refine Below.drew ?_) | (with_reducible refine Below.setCell ?_ ?_ _) | (with_reducible refine Below.trans ?_ (Below.mono (by with_reducible assumption) ?_)) | go_size))⟩
    · rw [World.cell?_alloc_past _ _ _ (by simp), World.cell?_alloc_at _ _ _ _ (by simp)]
      exact namesL_at hj
    · rw [World.cell?_alloc_at _ _ _ _ (by simp)]
      exact namesL_at hj
  case round =>
    obtain ⟨k, hk, rfl, hc, hb⟩ := hrel
    have HC := Lib.hid hc
    have HB := Lib.hid hb
    clear hc hb
    by_cases hlt : k < 48
    · obtain ⟨c1, c2⟩ := HC.out k hlt
      go_wp2
      go_quiet (fail)
      go_wp2
      go_roundw
      case rel => exact ⟨k + 1, by omega, by go_num, fun j hj => HC.out j hj, by have := HB.out; (repeat' (first | (with_reducible exact Below.refl _ _) | (with_reducible assumption) | (with_reducible refine Below.alloc ?_ ?_ _) | (with_reducible refine below_drewN ?_ _) | (with_reducible refine Below.drew ?_) | (with_reducible refine Below.setCell ?_ ?_ _) | (with_reducible refine Below.trans ?_ (Below.mono (by with_reducible assumption) ?_)) | go_size))⟩
      case measure => simp [intOf]; omega
    · go_wp2
      go_ret
      exact ⟨rfl, HB.out⟩
end Go.Proofs.Ytbanhnoggcddjaa
