import Derived.Test.YtpbflgemhcaooaaDoorPStrRange
import Derived.Test.YtpbflgemhcaooaaDoorLb25
/- evref1's checker: its maps; a place of an array. -/
namespace Go.Proofs.YtpbflgemhcaooaaDoor
open Go.RowKit
set_option linter.unusedSimpArgs false
set_option linter.unusedVariables false
def vV (p : Ev.Par) : Value := .agg #[.bool p.secret, .bool (decide (p.size < 0))]
def nmF (l : List Ev.Par) : SMapF := fun s => (Ev.findP l s).map vV
def arF (l : List Ev.Par) : SMapF := fun s => (Ev.findP l s).map parV
theorem nmF_snoc (l : List Ev.Par) (p : Ev.Par) : nmF (l ++ [p]) = smapPut (nmF l) p.name (some (vV p)) := by
  funext s
  unfold nmF smapPut
  rw [Ev.findP_snoc]
  by_cases h : p.name = s
  · rw [if_pos h, if_pos h.symm]; rfl
  · rw [if_neg h, if_neg (fun e => h e.symm)]
theorem arF_snoc (l : List Ev.Par) (p : Ev.Par) : arF (l ++ [p]) = smapPut (arF l) p.name (some (parV p)) := by
  funext s
  unfold arF smapPut
  rw [Ev.findP_snoc]
  by_cases h : p.name = s
  · rw [if_pos h, if_pos h.symm]; rfl
  · rw [if_neg h, if_neg (fun e => h e.symm)]
theorem nmF_back (l : List Ev.Par) (s : List UInt8) (v : Value) (h : Ev.findP l s = none) : smapPut (smapPut (nmF l) s (some v)) s none = nmF l := by
  funext q
  unfold smapPut nmF
  by_cases e : q = s
  · rw [if_pos e, e, h]; rfl
  · rw [if_neg e, if_neg e]
theorem SMapIn.look {w : World} {b : Nat} {m : SMapF} (h : SMapIn w b m) {T e : TypeId} {z : Value} (ht : Tryd.prog.underlying T = some (.map 9 e)) (hz : ∀ u, (zeroValue e).run Tryd.prog u = .ok z u) {p : List UInt8} (hp : InS p) (ok : Bool) {r : Option Value} (hr : m p = r) :
    ∀ u, Below w.heap.size w u → (Go.Instr.lookup T (.map (some b)) (.string ⟨p.toArray⟩) ok).run Tryd.prog u = .ok (if ok then .tuple #[r.getD z, .bool r.isSome] else r.getD z) u := fun u hu => by
  rw [← hr]
  exact (h.on hu).lookup ht (hz u) hp ok
/-- the checker's block, its map of arrays -/
structure KAt (w : World) (kb ab : Nat) (A : List Ev.Par) (k : Ev.LK) : Prop where
  r : w.heap[kb]? = some (.cells #[.map (some ab), .int .i64 k.work, .int .i64 k.lets] 99 (0, 0))
  m : SMapIn w ab (arF A)
theorem KAt.lt {w : World} {kb ab : Nat} {A : List Ev.Par} {k : Ev.LK} (h : KAt w kb ab A k) : kb < w.heap.size := (Array.getElem?_eq_some_iff.1 h.r).1
theorem KAt.on {w w' : World} {kb ab : Nat} {A : List Ev.Par} {k : Ev.LK} (h : KAt w kb ab A k) (hb : Below w.heap.size w w') : KAt w' kb ab A k := ⟨(hb.block kb h.lt).trans h.r, h.m.on hb⟩
theorem KAt.cell {w : World} {kb ab : Nat} {A : List Ev.Par} {k : Ev.LK} (h : KAt w kb ab A k) (j : Nat) : w.cell? ⟨kb, j, none⟩ = #[.map (some ab), .int .i64 k.work, .int .i64 k.lets][j]? := cell_of_block h.r j
theorem KAt.ne {w : World} {kb ab : Nat} {A : List Ev.Par} {k : Ev.LK} (h : KAt w kb ab A k) : ab ≠ kb := fun e => by
  obtain ⟨es, c, h1, _⟩ := h.m
  rw [e, h.r] at h1
  cases h1
theorem place_eq (A : List Ev.Par) (nm : List UInt8) (e : Ev.Ex) (secret dark : Bool) (p : Ev.Par) (h : Ev.findP A nm = some p) : Ev.plC A nm e secret dark = if secret = true then (false, 10) else if dark = true ∧ (e.kind ≠ 1 ∨ p.size ≤ e.n) then (false, 10) else (p.secret, 0) := by
  unfold Ev.plC
  rw [h]
set_option maxRecDepth 6000 in
set_option maxHeartbeats 3200000 in
theorem place_any (A : List Ev.Par) (k : Ev.LK) (kb ab : Nat) (nm : List UInt8) (hn : InS nm) (e : Ev.Ex) (vx : Value) (hs : ∃ a c, vx = .slice a e.args.length c) (secret dark : Bool) (w : World) (hk : KAt w kb ab A k) :
    Calls Tryd.prog 92 #[.pointer (some ⟨kb, 0, none⟩), .string ⟨(nm).toArray⟩, exV e vx, .bool secret, .bool dark] w fun r w' => r = .returned (.tuple #[.bool (Ev.plC A nm e secret dark).1, .int .i64 (Ev.plC A nm e secret dark).2]) ∧ Below w.heap.size w w' := by
  obtain ⟨xa, xc, rfl⟩ := hs
  have HK := Lib.hid hk
  have k0 : w.cell? ⟨kb, 0, none⟩ = some (.map (some ab)) := hk.cell 0
  have klt := hk.lt
  obtain ⟨R, hR⟩ : ∃ R, Ev.plC A nm e secret dark = R := ⟨_, rfl⟩
  rw [hR]
  unfold exV
  cases hf : Ev.findP A nm with
  | none =>
    have HP := Lib.hid (show (false, (6 : Int)) = R by rw [← hR]; unfold Ev.plC; rw [hf])
    have HLK := Lib.hid (hk.m.look (T := 97) Tryd.underlying97 (fun u => Tryd.zeroValue35 u) hn true (r := none) (by unfold arF; rw [hf]; rfl))
    simp only [Option.getD_none, Option.isSome_none, if_true] at HLK
    clear hk hR hf
    go_enter Tryd.func92, Tryd.ntmps92
    go_wp2_with (at_lookup; refine wpList_lookupS_at rfl _ _ 97 true rfl rfl rfl (HLK.out _ (by (repeat' first | with_reducible (first | exact Below.refl _ _ | assumption | refine Below.alloc ?_ ?_ _ | refine below_drewN ?_ _ | refine Below.drew ?_ | refine Below.setCell ?_ ?_ _ | refine Below.trans ?_ (Below.mono (by with_reducible assumption) ?_)) | go_size))) ?_)
    go_ret2
    exact ⟨by rw [← HP.out]; rfl, by (repeat' first | with_reducible (first | exact Below.refl _ _ | assumption | refine Below.alloc ?_ ?_ _ | refine below_drewN ?_ _ | refine Below.drew ?_ | refine Below.setCell ?_ ?_ _ | refine Below.trans ?_ (Below.mono (by with_reducible assumption) ?_)) | go_size)⟩
  | some p =>
    have HP := Lib.hid (show (if secret = true then (false, 10) else if dark = true ∧ (e.kind ≠ 1 ∨ p.size ≤ e.n) then (false, 10) else (p.secret, 0)) = R by rw [← hR, place_eq A nm e secret dark p hf])
    have HLK := Lib.hid (hk.m.look (T := 97) Tryd.underlying97 (fun u => Tryd.zeroValue35 u) hn true (r := some (parV p)) (by unfold arF; rw [hf]; rfl))
    simp only [Option.getD_some, Option.isSome_some, if_true] at HLK
    unfold parV at HLK
    clear hk hR hf
    go_enter Tryd.func92, Tryd.ntmps92
    go_upto_region 4 with (at_lookup; refine wpList_lookupS_at rfl _ _ 97 true rfl rfl rfl (HLK.out _ (by (repeat' first | with_reducible (first | exact Below.refl _ _ | assumption | refine Below.alloc ?_ ?_ _ | refine below_drewN ?_ _ | refine Below.drew ?_ | refine Below.setCell ?_ ?_ _ | refine Below.trans ?_ (Below.mono (by with_reducible assumption) ?_)) | go_size))) ?_)
    cases secret with
    | true =>
      have HX := Lib.hid (show (false, (10 : Int)) = R by rw [← HP.out]; rfl)
      go_wp2_with fail
      go_ret2
      exact ⟨by rw [← HX.out]; rfl, by (repeat' first | with_reducible (first | exact Below.refl _ _ | assumption | refine Below.alloc ?_ ?_ _ | refine below_drewN ?_ _ | refine Below.drew ?_ | refine Below.setCell ?_ ?_ _ | refine Below.trans ?_ (Below.mono (by with_reducible assumption) ?_)) | go_size)⟩
    | false =>
    cases dark with
    | false =>
      have HX := Lib.hid (show (p.secret, (0 : Int)) = R by rw [← HP.out]; simp)
      go_wp2_with fail
      go_ret2
      exact ⟨by rw [← HX.out]; rfl, by (repeat' first | with_reducible (first | exact Below.refl _ _ | assumption | refine Below.alloc ?_ ?_ _ | refine below_drewN ?_ _ | refine Below.drew ?_ | refine Below.setCell ?_ ?_ _ | refine Below.trans ?_ (Below.mono (by with_reducible assumption) ?_)) | go_size)⟩
    | true =>
    by_cases hkd : e.kind = 1
    case neg =>
      have g1 : (e.kind == 1) = false := beq_eq_false_iff_ne.2 hkd
      have HX := Lib.hid (show (false, (10 : Int)) = R by rw [← HP.out]; simp [hkd])
      clear hkd
      go_wp2_with fail
      go_ret2
      exact ⟨by rw [← HX.out]; rfl, by (repeat' first | with_reducible (first | exact Below.refl _ _ | assumption | refine Below.alloc ?_ ?_ _ | refine below_drewN ?_ _ | refine Below.drew ?_ | refine Below.setCell ?_ ?_ _ | refine Below.trans ?_ (Below.mono (by with_reducible assumption) ?_)) | go_size)⟩
    case pos =>
    have g1 : (e.kind == 1) = true := beq_iff_eq.2 hkd
    by_cases hnn : p.size ≤ e.n
    case pos =>
      have g2 : decide (e.n < p.size) = false := decide_eq_false (by omega)
      have HX := Lib.hid (show (false, (10 : Int)) = R by rw [← HP.out]; simp [hnn])
      clear hkd hnn
      go_wp2_with fail
      go_ret2
      exact ⟨by rw [← HX.out]; rfl, by (repeat' first | with_reducible (first | exact Below.refl _ _ | assumption | refine Below.alloc ?_ ?_ _ | refine below_drewN ?_ _ | refine Below.drew ?_ | refine Below.setCell ?_ ?_ _ | refine Below.trans ?_ (Below.mono (by with_reducible assumption) ?_)) | go_size)⟩
    case neg =>
      have g2 : decide (e.n < p.size) = true := decide_eq_true (by omega)
      have HX := Lib.hid (show (p.secret, (0 : Int)) = R by rw [← HP.out]; simp [hkd, hnn])
      clear hkd hnn
      go_wp2_with fail
      go_ret2
      exact ⟨by rw [← HX.out]; rfl, by (repeat' first | with_reducible (first | exact Below.refl _ _ | assumption | refine Below.alloc ?_ ?_ _ | refine below_drewN ?_ _ | refine Below.drew ?_ | refine Below.setCell ?_ ?_ _ | refine Below.trans ?_ (Below.mono (by with_reducible assumption) ?_)) | go_size)⟩
end Go.Proofs.YtpbflgemhcaooaaDoor
