import Derived.Test.YtpbflgemhcaooaaDoorAtoi
import Derived.Test.YtpbflgemhcaooaaDoorCards
import Derived.Test.YtpbflgemhcaooaaDoorTie
import Derived.Stop.LaidErr
import Derived.Lib.LaidTab
import Derived.LaidMore
import Derived.MakeChecks
import Derived.ProofKit
import Derived.OpenShut
/- What the listed variables of strconv hold, out of the row's condition. -/
namespace Go.Proofs.YtpbflgemhcaooaaDoor
open Go.ChangeShapes Go.WideShapes Go.ChangeAt Go.RowKit
theorem lTab : (Tryd.prog.globals[3]?).map (·.type) = some 220 := by kernel_rfl
theorem lSyn : (Tryd.prog.globals[1]?).map (·.type) = some 146 := by kernel_rfl
theorem lRng : (Tryd.prog.globals[2]?).map (·.type) = some 146 := by kernel_rfl
theorem lcT : Tryd.prog.cellsOf 220 = 20 := by kernel_rfl
theorem lcE : Tryd.prog.cellsOf 207 = 1 := by kernel_rfl
theorem lcS : Tryd.prog.cellsOf 229 = 1 := by kernel_rfl
theorem lcs : Tryd.prog.cellsOf 9 = 1 := by kernel_rfl
theorem lstar : "*" ++ "errors.errorString" = "*errors.errorString" := by decide
theorem lrow (u : TypeId) (h : Tryd.prog.typeName? 3 u = some "*errors.errorString") : u = 227 :=
  typeName_ptr_named (nm := "errors.errorString") (by rw [lstar]; kernel_rfl) (by kernel_rfl) (by decide) u (by rw [lstar]; exact h)
def laid5 : List (String × DataW Unit) := [("math/bits.deBruijn32tab", Rows.laid_math_bits_deBruijn32tab), ("math/bits.deBruijn64tab", Rows.laid_math_bits_deBruijn64tab), ("internal/strconv.uint64pow10", Rows.laid_internal_strconv_uint64pow10), ("strconv.ErrRange", Rows.laid_strconv_ErrRange), ("strconv.ErrSyntax", Rows.laid_strconv_ErrSyntax)]
theorem vars_of_laid {W : World} (h : laidMetH Tryd.prog laid5 W) : Vars W := by
  unfold laid5 at h
  rw [MakeChecks.laidMetH_plain _ _ _ (by kernel_rfl)] at h
  have h3 := h.tail.tail
  have t1 : Lib.TabIs Tryd.prog W "internal/strconv.uint64pow10" .u64 Lib.pow10Tab := Lib.tabIs_of_head gTab lTab Tryd.underlying220 Tryd.underlying207 lcE lcT h3
  obtain ⟨a0, _, e0, _⟩ := laid_sentinel h3.tail gRng lRng Tryd.underlying146 lrow Tryd.underlying227 Tryd.underlying229 rfl rfl Tryd.underlying9 lcS lcs
  obtain ⟨a1, _, e1, _⟩ := laid_sentinel h3.tail.tail gSyn lSyn Tryd.underlying146 lrow Tryd.underlying227 Tryd.underlying229 rfl rfl Tryd.underlying9 lcS lcs
  exact ⟨t1, ⟨_, _, e1⟩, _, _, e0⟩
theorem door_met (os : Os) (args : Array Value) : laidMetH Tryd.prog laid5 ((World.doorLaid Tryd.prog 62 os).forCall (fun _ _ => 0) ⟨#[], args, []⟩).memory :=
  laidMetH_of_parts3 (fuel := 8) (laidMet_of_run' 8 (by kernel_rfl) (by kernel_rfl)) (by kernel_rfl) (by kernel_rfl)
end Go.Proofs.YtpbflgemhcaooaaDoor
