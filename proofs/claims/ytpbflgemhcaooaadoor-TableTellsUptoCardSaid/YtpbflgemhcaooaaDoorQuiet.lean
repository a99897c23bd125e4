import Derived.Test.YtpbflgemhcaooaaDoorLib
import Derived.BigQuiet
import Derived.Deep.QuietTactic
import Derived.WalkSmall
/- Callees that only read. -/
namespace Go.Proofs.YtpbflgemhcaooaaDoor
open Go.RowKit
/-- a quiet callee's contract, in a world that has been drawn from before -/
theorem quiet_at {P : Program} {f : FuncId} {args : Array Value} {w : World} {n a : Nat} {v : Value}
    (h : Calls P f args (w.drewN (a + n)) fun e w' => e = .returned v ∧ ∃ m, w' = (w.drewN (a + n)).drewN m) : Calls P f args (w.drewN (a + n)) fun e w'' => e = .returned v ∧ ∃ m, w'' = w.drewN (a + m) :=
  h.mono fun _ _ ⟨he, m, hm⟩ => ⟨he, n + m, by rw [hm, World.drewN_drewN, Nat.add_assoc]⟩
theorem quiet_below {P : Program} {f : FuncId} {args : Array Value} {w : World} {v : Value}
    (h : Calls P f args w fun e w' => e = .returned v ∧ ∃ n, w' = w.drewN n) : Calls P f args w fun e w' => e = .returned v ∧ Below w.heap.size w w' :=
  h.mono fun _ _ ⟨he, n, hw⟩ => ⟨he, hw ▸ below_drewN (Below.refl _ _) n⟩
theorem SL.dr {w : World} {B size n : Nat} {v : Value} {xs : List Value} (k : Nat) (h : SL w B size v n xs) : SL (w.drewN k) B size v n xs := h
end Go.Proofs.YtpbflgemhcaooaaDoor
