import Derived.Test.YtljcgcllhcdleaaFlowA
import Derived.Deep.RegionHeld3
import Derived.RegionCalls
/- Chapter 7, the reference: what an instruction reads, by a text. -/
namespace Go.Proofs.Ytljcgcllhcdleaa
open Go.RowKit
set_option linter.unusedSimpArgs false
set_option linter.unusedVariables false
/-- which of A, B, C, D an op reads, and whether it makes D -/
def form (op : Int) : ByteArray :=
  if 1 ≤ op ∧ op ≤ 12 then ⟨#[65, 66, 109]⟩ else if op = 13 then ⟨#[65, 66, 67, 109]⟩ else if op = 14 then ⟨#[109]⟩
  else if op = 15 ∨ op = 16 then ⟨#[65, 109]⟩ else if op = 17 then ⟨#[65, 68]⟩ else if op = 19 ∨ op = 20 then ⟨#[65]⟩ else ⟨#[]⟩
theorem form_cases (op : Int) : ((1 ≤ op ∧ op ≤ 12) ∧ form op = ⟨#[65, 66, 109]⟩) ∨ (op = 13 ∧ form op = ⟨#[65, 66, 67, 109]⟩) ∨ (op = 14 ∧ form op = ⟨#[109]⟩) ∨ ((op = 15 ∨ op = 16) ∧ form op = ⟨#[65, 109]⟩) ∨
    (op = 17 ∧ form op = ⟨#[65, 68]⟩) ∨ ((op = 19 ∨ op = 20) ∧ form op = ⟨#[65]⟩) ∨ ((op < 1 ∨ op = 18 ∨ 20 < op) ∧ form op = ⟨#[]⟩) := by
  unfold form
  by_cases h1 : 1 ≤ op ∧ op ≤ 12
  · exact .inl ⟨h1, if_pos h1⟩
  · rw [if_neg h1]
    by_cases h2 : op = 13
    · exact .inr (.inl ⟨h2, if_pos h2⟩)
    · rw [if_neg h2]
      by_cases h3 : op = 14
      · exact .inr (.inr (.inl ⟨h3, if_pos h3⟩))
      · rw [if_neg h3]
        by_cases h4 : op = 15 ∨ op = 16
        · exact .inr (.inr (.inr (.inl ⟨h4, if_pos h4⟩)))
        · rw [if_neg h4]
          by_cases h5 : op = 17
          · exact .inr (.inr (.inr (.inr (.inl ⟨h5, if_pos h5⟩))))
          · rw [if_neg h5]
            by_cases h6 : op = 19 ∨ op = 20
            · exact .inr (.inr (.inr (.inr (.inr (.inl ⟨h6, if_pos h6⟩)))))
            · exact .inr (.inr (.inr (.inr (.inr (.inr ⟨by omega, if_neg h6⟩)))))

set_option maxHeartbeats 800000 in
theorem form_any (op : Int) (w : World) :
    Calls Try.prog 64 #[.int .i64 op] w fun e w' => e = .returned (.string (form op)) ∧ Below w.heap.size w w' := by
  have H := Lib.hid (form_cases op)
  generalize form op = s at *
  go_enter Try.func64, Try.ntmps64
  go_wp2
  all_goals
    go_ret
    (try simp only [beq_iff_eq, beq_eq_false_iff_ne] at *)
    refine ⟨?_, by (repeat' (first | (with_reducible exact Below.refl _ _) | (with_reducible assumption) | (with_reducible refine Below.alloc ?_ ?_ _) | (with_reducible refine below_drewN ?_ _) | (with_reducible refine Below.drew ?_) | (with_reducible refine Below.setCell ?_ ?_ _) | (with_reducible refine Below.trans ?_ (Below.mono (by with_reducible assumption) ?_)) | go_size))⟩
    rcases H.out with ⟨h, rfl⟩ | ⟨h, rfl⟩ | ⟨h, rfl⟩ | ⟨h, rfl⟩ | ⟨h, rfl⟩ | ⟨h, rfl⟩ | ⟨h, rfl⟩ <;> first | rfl | (exfalso; omega)

set_option maxHeartbeats 800000 in
theorem refMakes_any (i : Ev.Instr) (w : World) :
    Calls Try.prog 30 #[.agg #[.int .i64 i.op, .int .i64 i.d, .int .i64 i.a, .int .i64 i.b, .int .i64 i.c, .int .i64 i.imm]] w fun e w' => e = .returned (.bool (Ev.makes i)) ∧ Below w.heap.size w w' := by
  have hm : ∀ b, ((1 ≤ i.op ∧ i.op ≤ 16) ↔ b = true) → Ev.makes i = b := fun b h => by
    unfold Ev.makes
    cases b <;> simp at h ⊢ <;> omega
  generalize Ev.makes i = mk at *
  have HM := Lib.hid hm
  clear hm
  rcases form_cases i.op with ⟨h, hf⟩ | ⟨h, hf⟩ | ⟨h, hf⟩ | ⟨h, hf⟩ | ⟨h, hf⟩ | ⟨h, hf⟩ | ⟨h, hf⟩
  all_goals
    have hc := form_any i.op
    rw [hf] at hc
    have HC := Lib.hid hc
    have HH := Lib.hid h
    clear hc hf h
    go_enter Try.func30, Try.ntmps30
    go_wp2_with fail
    refine (HC.out _).mono ?_
    rintro e w1 ⟨rfl, hb1⟩
    obtain ⟨kc1, kf1, s1⟩ := bfacts hb1
    (try simp only [World.size_alloc, World.size_setCell, World.size_drew, World.heap_drewN, Nat.add_one_le_iff] at s1)
    (try have z1 : w.heap.size < w1.heap.size := by omega)
    have B1 : Hid (Below w.heap.size w w1) := by (show Below _ _ _); (repeat' (first | (with_reducible exact Below.refl _ _) | (with_reducible assumption) | (with_reducible refine Below.alloc ?_ ?_ _) | (with_reducible refine below_drewN ?_ _) | (with_reducible refine Below.drew ?_) | (with_reducible refine Below.setCell ?_ ?_ _) | (with_reducible refine Below.trans ?_ (Below.mono (by with_reducible assumption) ?_)) | go_size))
    obtain ⟨kd1, kg1, _⟩ := bfacts B1.out
    go_wp2_with fail
    try go_ret
  all_goals
    have h := HH.out
    first
    | (have e := HM.out true (by constructor <;> intro _ <;> first | rfl | omega)
       exact ⟨by rw [e]; rfl, by (repeat' (first | (with_reducible exact Below.refl _ _) | (with_reducible assumption) | (with_reducible refine Below.alloc ?_ ?_ _) | (with_reducible refine below_drewN ?_ _) | (with_reducible refine Below.drew ?_) | (with_reducible refine Below.setCell ?_ ?_ _) | (with_reducible refine Below.trans ?_ (Below.mono (by with_reducible assumption) ?_)) | go_size))⟩)
    | (have e := HM.out false (by constructor <;> intro _ <;> first | (exfalso; omega) | contradiction)
       exact ⟨by rw [e]; rfl, by (repeat' (first | (with_reducible exact Below.refl _ _) | (with_reducible assumption) | (with_reducible refine Below.alloc ?_ ?_ _) | (with_reducible refine below_drewN ?_ _) | (with_reducible refine Below.drew ?_) | (with_reducible refine Below.setCell ?_ ?_ _) | (with_reducible refine Below.trans ?_ (Below.mono (by with_reducible assumption) ?_)) | go_size))⟩)
    | skip
  all_goals trace_state
end Go.Proofs.Ytljcgcllhcdleaa
