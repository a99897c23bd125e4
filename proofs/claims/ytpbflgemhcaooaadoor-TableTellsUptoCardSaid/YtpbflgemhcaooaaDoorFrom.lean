import Derived.Test.YtpbflgemhcaooaaDoorAt
/- Slices whose row lies from some block on. -/
namespace Go.Proofs.YtpbflgemhcaooaaDoor
open Go.RowKit
/-- the slice's row, if there is one, lies in a block from lo on -/
def from_ (lo : Nat) (v : Value) : Prop := ∀ a n c, v = .slice (some a) n c → lo ≤ a.block
theorem from_nil (lo n c : Nat) : from_ lo (.slice none n c) := fun a n c h => by cases h
theorem from_some {lo : Nat} {a : Addr} (n c : Nat) (h : lo ≤ a.block) : from_ lo (.slice (some a) n c) := fun a' n' c' e => by cases e; exact h
theorem from_.less {lo lo' : Nat} {v : Value} (h : from_ lo v) (hl : lo' ≤ lo) : from_ lo' v := fun a n c e => Nat.le_trans hl (h a n c e)
/-- a store ahead of it leaves it -/
theorem SL.aside {w : World} {B size n lo : Nat} {v : Value} {xs : List Value} (h : SL w B size v n xs) (hf : from_ lo v) (k o : Nat) (u : Value) (hk : k < lo) : SL (w.setCell ⟨k, o, none⟩ u) B size v n xs := by
  obtain ⟨h1, A, c, rfl, h3, h4, h5, h6⟩ := h
  refine ⟨h1, A, c, rfl, h3, h4, h5, fun hn => ?_⟩
  obtain ⟨b, o', rfl, hlt, hc⟩ := h6 hn
  have hb := hf _ _ _ rfl
  refine ⟨b, o', rfl, hlt, fun j u' hu => ?_⟩
  have hne : k ≠ b := by simp only at hb; omega
  rw [← hc j u' hu]
  unfold World.setCell World.cell?
  simp only [Array.getElem?_modify, hne, if_false]

end Go.Proofs.YtpbflgemhcaooaaDoor
