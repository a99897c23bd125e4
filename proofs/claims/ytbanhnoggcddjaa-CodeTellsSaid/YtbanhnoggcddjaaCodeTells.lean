import Derived.Test.YtbanhnoggcddjaaRows
import Derived.Test.YtbanhnoggcddjaaBytes
import Derived.Test.YtbanhnoggcddjaaParseB
import Derived.Test.YtbanhnoggcddjaaLib
namespace Go.Proofs.Ytbanhnoggcddjaa
open Go.RowKit
set_option linter.unusedSimpArgs false
set_option linter.unusedVariables false

set_option maxHeartbeats 1000000 in
theorem codeTells_walk (i : Ev.Instr) (b : List Int) (v : Value) (w : World) (h : RBytes w w.heap.size v b) (hb : ∀ x ∈ b, 0 ≤ x ∧ x ≤ 255) :
    Calls Try.prog 3 #[.agg #[.int .i64 i.op, .int .i64 i.d, .int .i64 i.a, .int .i64 i.b, .int .i64 i.c, .int .i64 i.imm], v] w fun e w' => e = .returned (.bool true) ∧ Below w.heap.size w w' := by
  go_enter Try.func3, Try.ntmps3
  go_wp2_with fail
  refine (bytes_any i _).mono ?_
  rintro e w1 ⟨v1, rfl, hR1, hb1⟩
  obtain ⟨kc1, kf1, s1⟩ := bfacts hb1
  (try simp only [World.size_alloc, World.size_setCell, World.size_drew, World.heap_drewN] at s1)
  have B1 : Hid (Below w.heap.size w w1) := by (show Below _ _ _); (repeat' (first | (with_reducible exact Below.refl _ _) | (with_reducible assumption) | (with_reducible refine Below.alloc ?_ ?_ _) | (with_reducible refine below_drewN ?_ _) | (with_reducible refine Below.drew ?_) | (with_reducible refine Below.setCell ?_ ?_ _) | (with_reducible refine Below.trans ?_ (Below.mono (by with_reducible assumption) ?_)) | go_size))
  go_wp2_with fail
  refine (refBytes_any i _).mono ?_
  rintro e w2 ⟨v2, rfl, hR2, hb2⟩
  obtain ⟨kc2, kf2, s2⟩ := bfacts hb2
  (try simp only [World.size_alloc, World.size_setCell, World.size_drew, World.heap_drewN] at s2)
  have B2 : Hid (Below w.heap.size w w2) := by (show Below _ _ _); (repeat' (first | (with_reducible exact Below.refl _ _) | (with_reducible assumption) | (with_reducible refine Below.alloc ?_ ?_ _) | (with_reducible refine below_drewN ?_ _) | (with_reducible refine Below.drew ?_) | (with_reducible refine Below.setCell ?_ ?_ _) | (with_reducible refine Below.trans ?_ (Below.mono (by with_reducible assumption) ?_)) | go_size))
  go_wp2_with fail
  refine (parse_any b v _ (h.at_ B2.out (Nat.le_refl _)) hb).mono ?_
  rintro e w3 ⟨rfl, hb3⟩
  obtain ⟨kc3, kf3, s3⟩ := bfacts hb3
  (try simp only [World.size_alloc, World.size_setCell, World.size_drew, World.heap_drewN] at s3)
  have B3 : Hid (Below w.heap.size w w3) := by (show Below _ _ _); (repeat' (first | (with_reducible exact Below.refl _ _) | (with_reducible assumption) | (with_reducible refine Below.alloc ?_ ?_ _) | (with_reducible refine below_drewN ?_ _) | (with_reducible refine Below.drew ?_) | (with_reducible refine Below.setCell ?_ ?_ _) | (with_reducible refine Below.trans ?_ (Below.mono (by with_reducible assumption) ?_)) | go_size))
  go_wp2_with fail
  refine (refParse_any b v _ (h.at_ (w' := w3.alloc _) (by (repeat' (first | (with_reducible exact Below.refl _ _) | (with_reducible assumption) | (with_reducible refine Below.alloc ?_ ?_ _) | (with_reducible refine below_drewN ?_ _) | (with_reducible refine Below.drew ?_) | (with_reducible refine Below.setCell ?_ ?_ _) | (with_reducible refine Below.trans ?_ (Below.mono (by with_reducible assumption) ?_)) | go_size))) (Nat.le_refl _)) hb).mono ?_
  rintro e w4 ⟨rfl, hb4⟩
  obtain ⟨kc4, kf4, s4⟩ := bfacts hb4
  (try simp only [World.size_alloc, World.size_setCell, World.size_drew, World.heap_drewN] at s4)
  have B4 : Hid (Below w.heap.size w w4) := by (show Below _ _ _); (repeat' (first | (with_reducible exact Below.refl _ _) | (with_reducible assumption) | (with_reducible refine Below.alloc ?_ ?_ _) | (with_reducible refine below_drewN ?_ _) | (with_reducible refine Below.drew ?_) | (with_reducible refine Below.setCell ?_ ?_ _) | (with_reducible refine Below.trans ?_ (Below.mono (by with_reducible assumption) ?_)) | go_size))
  have q1 : ∀ o, (convert 24 9 v1).run Try.prog (w4.alloc o) = .ok (.string (strOfNums (Ev.bytesOf i))) (w4.alloc o) := fun o =>
    RBytes.str (hR1.at_ (w' := w4.alloc o) (by (repeat' (first | (with_reducible exact Below.refl _ _) | (with_reducible assumption) | (with_reducible refine Below.alloc ?_ ?_ _) | (with_reducible refine below_drewN ?_ _) | (with_reducible refine Below.drew ?_) | (with_reducible refine Below.setCell ?_ ?_ _) | (with_reducible refine Below.trans ?_ (Below.mono (by with_reducible assumption) ?_)) | go_size))) (Nat.le_refl _)) _ 5 Try.underlying24 Try.underlying5 _ Try.underlying9
  have q2 : ∀ o, (convert 24 9 v2).run Try.prog (w4.alloc o) = .ok (.string (strOfNums (Ev.bytesOf i))) (w4.alloc o) := fun o =>
    RBytes.str (hR2.at_ (w' := w4.alloc o) (by (repeat' (first | (with_reducible exact Below.refl _ _) | (with_reducible assumption) | (with_reducible refine Below.alloc ?_ ?_ _) | (with_reducible refine below_drewN ?_ _) | (with_reducible refine Below.drew ?_) | (with_reducible refine Below.setCell ?_ ?_ _) | (with_reducible refine Below.trans ?_ (Below.mono (by with_reducible assumption) ?_)) | go_size))) (Nat.le_refl _)) _ 5 Try.underlying24 Try.underlying5 _ Try.underlying9
  generalize strOfNums (Ev.bytesOf i) = st at *
  generalize Ev.parseOf b = ins at *
  generalize Ev.parseErr b = er at *
  generalize Ev.bytesErr i = er2 at *
  have z4 : w3.heap.size < w4.heap.size := by omega
  go_wp2_with fail
  go_ret
  exact ⟨rfl, by (repeat' (first | (with_reducible exact Below.refl _ _) | (with_reducible assumption) | (with_reducible refine Below.alloc ?_ ?_ _) | (with_reducible refine below_drewN ?_ _) | (with_reducible refine Below.drew ?_) | (with_reducible refine Below.setCell ?_ ?_ _) | (with_reducible refine Below.trans ?_ (Below.mono (by with_reducible assumption) ?_)) | go_size))⟩
end Go.Proofs.Ytbanhnoggcddjaa
