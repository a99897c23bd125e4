import Derived.Test.YtpbflgemhcaooaaDoorWordFns
import Derived.Test.YtpbflgemhcaooaaDoorChain
import Derived.Test.YtpbflgemhcaooaaDoorShelf
import Derived.Lib.SmallJoins
import Derived.Outline
/- strconv.Atoi, strconv.Itoa: their contracts at this translation. -/
namespace Go.Proofs.YtpbflgemhcaooaaDoor
open Go.RowKit
set_option linter.unusedSimpArgs false
set_option linter.unusedVariables false
/-- what strconv's variables hold -/
structure Vars (w : World) : Prop where
  tab : Lib.TabIs Tryd.prog w "internal/strconv.uint64pow10" .u64 Lib.pow10Tab
  syn : ∃ tp p, w.var? Tryd.prog "strconv.ErrSyntax" = some #[.iface tp p]
  rng : ∃ tp p, w.var? Tryd.prog "strconv.ErrRange" = some #[.iface tp p]
theorem gTab : Tryd.prog.globalNamed "internal/strconv.uint64pow10" = some 3 := by kernel_rfl
theorem gSyn : Tryd.prog.globalNamed "strconv.ErrSyntax" = some 1 := by kernel_rfl
theorem gRng : Tryd.prog.globalNamed "strconv.ErrRange" = some 2 := by kernel_rfl
theorem Vars.stays {w w' : World} (h : Vars w) (hb : Below w.heap.size w w') : Vars w' := by
  obtain ⟨h1, ⟨tp, p, h2⟩, tp', p', h3⟩ := h
  exact ⟨Joins.var_stays gTab h1 hb (Nat.le_refl _), ⟨tp, p, Joins.var_stays gSyn h2 hb (Nat.le_refl _)⟩, ⟨tp', p', Joins.var_stays gRng h3 hb (Nat.le_refl _)⟩⟩

/-- Atoi: the number, and is it one -/
def atoiV (s : ByteArray) : Int := match Lib.atoiAll s.data.toList with | .ok v => v | .range => Lib.atoiSat s.data.toList | _ => 0
def atoiB (s : ByteArray) : Bool := match Lib.atoiAll s.data.toList with | .ok _ => true | _ => false
theorem atoiV_in (s : ByteArray) : -9223372036854775808 ≤ atoiV s ∧ atoiV s ≤ 9223372036854775807 := by
  unfold atoiV
  split
  · rename_i v h; exact Lib.atoiAll_bounds h
  · exact Lib.atoiSat_bounds _
  · omega
theorem atoi_yes (s : ByteArray) (w : World) (hs : s.size ≤ 281474976710656) (h : atoiB s = true) :
    Calls Tryd.prog 77 #[.string s] w fun e w' => e = .returned (.tuple #[.int .i64 (atoiV s), .nilIface]) ∧ Below w.heap.size w w' := by
  unfold atoiB at h
  unfold atoiV
  rcases h1 : Lib.atoiAll s.data.toList with v | _ | _
  · refine (Any.strconv_Atoi_ok Tryd.laysC172 s (by omega) v h1 w).mono fun e w' ⟨he, hw⟩ => ⟨he, ?_⟩
    rcases hw with rfl | ⟨t, rfl⟩
    · exact Below.refl _ _
    · exact Joins.below_bytesWorld _ _ _ _ (Nat.le_refl _)
  · rw [h1] at h; cases h
  · rw [h1] at h; cases h
theorem atoi_no (s : ByteArray) (w : World) (hs : s.size ≤ 281474976710656) (hv : Vars w) (h : atoiB s = false) :
    Calls Tryd.prog 77 #[.string s] w fun e w' => ∃ N, e = .returned (.tuple #[.int .i64 (atoiV s), .iface 198 (.pointer (some ⟨N, 0, none⟩))]) ∧ Below w.heap.size w w' := by
  obtain ⟨h1, ⟨tp, p, h2⟩, tp', p', h3⟩ := hv
  unfold atoiB at h
  unfold atoiV
  rcases h4 : Lib.atoiAll s.data.toList with v | _ | _
  · rw [h4] at h; cases h
  · exact (Any.strconv_Atoi_syntax_var Tryd.laysC172 s hs h4 tp p w h2).mono fun e w' ⟨N, he, _, _, hb⟩ => ⟨N, he, hb⟩
  · exact (Any.strconv_Atoi_range_var Tryd.laysC172 s hs h4 tp' p' w h3).mono fun e w' ⟨N, he, _, _, hb⟩ => ⟨N, he, hb⟩
theorem below_grown (B : Nat) (w : World) (hB : B ≤ w.heap.size) (k : Nat) (os : Array Obj) : Below B w (Sort.grow (w.drewN k) os) :=
  ⟨rfl, rfl, rfl, by show w.heap.size ≤ (w.heap ++ os).size; rw [Array.size_append]; omega, fun j hj => by
    show (w.heap ++ os)[j]? = _
    rw [Array.getElem?_append_left (by omega)]⟩
theorem itoa_any (n : Int) (w : World) (h : -9223372036854775808 ≤ n ∧ n ≤ 9223372036854775807) (hv : Vars w) :
    Calls Tryd.prog 75 #[.int .i64 n] w fun e w' => e = .returned (.string ⟨(Lib.itoa n).toArray⟩) ∧ Below w.heap.size w w' :=
  (Any.strconv_Itoa Tryd.laysM171 n h.1 h.2 w hv.tab).mono fun e w' ⟨he, k, os, hw⟩ => ⟨he, by subst hw; exact below_grown _ _ (Nat.le_refl _) _ _⟩

end Go.Proofs.YtpbflgemhcaooaaDoor
