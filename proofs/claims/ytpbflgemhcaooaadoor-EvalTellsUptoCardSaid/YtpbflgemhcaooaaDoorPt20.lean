import Derived.Test.YtpbflgemhcaooaaDoorPt19
import Derived.Test.YtpbflgemhcaooaaDoorPt7
import Derived.Test.YtpbflgemhcaooaaDoorPt8
import Derived.BigQuiet
import Derived.Deep.QuietTactic
import Derived.WalkSmall
/- eval: the teller in memory; an array's place. -/
namespace Ev
def trapE : Option (Option Int) → Bool
  | some none => true
  | _ => false
def resE : Option (Option Int) → Int
  | some (some v) => v
  | _ => 0
theorem arrI_at {A : List Par} {n : List UInt8} {k : Nat} {p : Par} (hk : A[k]? = some p) (hp : p.name = n) (hb : ∀ j q, j < k → A[j]? = some q → q.name ≠ n) : arrI A n = k := by
  obtain ⟨hlt, e⟩ := List.getElem?_eq_some_iff.1 hk
  unfold arrI
  rw [List.findIdx_eq hlt]
  refine ⟨by rw [e]; simpa using hp, fun j hj => ?_⟩
  have := hb j _ hj (List.getElem?_eq_getElem (by omega))
  simpa using this
end Ev
namespace Go.Proofs.YtpbflgemhcaooaaDoor
open Go.RowKit
set_option linter.unusedSimpArgs false
set_option linter.unusedVariables false
/-- the teller's block; its arrays' blocks are lo .. hi -/
structure EvM (w : World) (tb fb lo hi : Nat) (va v2 : Value) (vs : List Value) (A : List Ev.Par) (a : Ev.Ars) (e : Option (Option Int)) : Prop where
  t : w.heap[tb]? = some (.cells #[.pointer (some ⟨fb, 0, none⟩), va, .bool e.isSome, .bool (Ev.trapE e), .int .i64 (Ev.resE e)] 154 (0, 0))
  f : w.cell? ⟨fb, 1, none⟩ = some v2
  fl : fb < lo
  ll : lo ≤ w.heap.size
  ar : RPars w v2 A
  ak : inK (fun k => k < lo) v2
  arrs : Arrs w lo va a vs
  hio : ∀ b, va.ownBlock = some b → b < hi
  his : ∀ (k : Nat) u b, vs[k]? = some u → u.ownBlock = some b → b < hi
  le : lo ≤ hi
  tl : hi ≤ tb
  len : a.length = A.length
theorem ownsRow_same {w w' : World} {lo size n : Nat} {T : TypeId} {v : Value} {xs : List Value} (h : w.ownsRow lo T size v n xs) (hk : ∀ g, v.ownBlock = some g → w'.heap[g]? = w.heap[g]?) : w'.ownsRow lo T size v n xs := by
  refine ⟨h.1, ?_⟩
  rcases h.2 with hn | ⟨g, cap, cur, rfl, hb, hg, rest⟩
  · exact .inl hn
  · exact .inr ⟨g, cap, cur, rfl, hb, (hk g rfl).trans hg, rest⟩
section
variable {w w' : World} {tb fb lo hi : Nat} {va v2 : Value} {vs : List Value} {A : List Ev.Par} {a : Ev.Ars} {e : Option (Option Int)}
theorem EvM.lt (h : EvM w tb fb lo hi va v2 vs A a e) : tb < w.heap.size := (Array.getElem?_eq_some_iff.1 h.t).1
theorem EvM.keep (h : EvM w tb fb lo hi va v2 vs A a e) (hs : w.heap.size ≤ w'.heap.size) (hk : ∀ k, k < hi ∨ k = tb → w'.heap[k]? = w.heap[k]?) : EvM w' tb fb lo hi va v2 vs A a e := by
  have hle := h.le
  refine ⟨(hk tb (.inr rfl)).trans h.t, ?_, h.fl, Nat.le_trans h.ll hs, ?_, h.ak, ⟨ownsRow_same h.arrs.outer (fun g hg => hk g (.inl (h.hio g hg))), h.arrs.len, fun k u x hu hx => ownsRow_same (h.arrs.row k u x hu hx) (fun g hg => hk g (.inl (h.his k u g hu hg))), h.arrs.apart, h.arrs.out⟩, h.hio, h.his, h.le, h.tl, h.len⟩
  · have hf := h.f
    unfold World.cell? at hf ⊢
    dsimp only at hf ⊢
    rw [hk fb (.inl (Nat.lt_of_lt_of_le h.fl h.le))]
    exact hf
  · exact SL.keep h.ar h.ak hs (fun k hk' _ => hk k (.inl (Nat.lt_of_lt_of_le hk' h.le)))
theorem EvM.on (h : EvM w tb fb lo hi va v2 vs A a e) (hb : Below w.heap.size w w') : EvM w' tb fb lo hi va v2 vs A a e :=
  h.keep hb.size (fun k hk => hb.block k (by have := h.lt; have := h.tl; omega))
theorem EvM.sfr {S : Nat → Prop} (h : EvM w tb fb lo hi va v2 vs A a e) (hF : SFr S w w') (hS : ∀ k, k < hi ∨ k = tb → ¬ S k) : EvM w' tb fb lo hi va v2 vs A a e :=
  h.keep hF.size (fun k hk => hF.block k (by have := h.lt; have := h.tl; omega) (hS k hk))
theorem EvM.cell (h : EvM w tb fb lo hi va v2 vs A a e) (j : Nat) : w.cell? ⟨tb, j, none⟩ = #[.pointer (some ⟨fb, 0, none⟩), va, .bool e.isSome, .bool (Ev.trapE e), .int .i64 (Ev.resE e)][j]? := cell_of_block h.t j
theorem EvM.free (h : EvM w tb fb lo hi va v2 vs A a e) (j : Nat) : w.frozen? ⟨tb, j, none⟩ = false := by
  unfold World.frozen?
  rw [h.t]
  simp
/-- the teller's own cells are set -/
theorem EvM.tset (h : EvM w tb fb lo hi va v2 vs A a e) (e' : Option (Option Int)) (hs : w'.heap.size = w.heap.size) (hk : ∀ k, k ≠ tb → w'.heap[k]? = w.heap[k]?)
    (ht : w'.heap[tb]? = some (.cells #[.pointer (some ⟨fb, 0, none⟩), va, .bool e'.isSome, .bool (Ev.trapE e'), .int .i64 (Ev.resE e')] 154 (0, 0))) : EvM w' tb fb lo hi va v2 vs A a e' := by
  have hle := h.le
  have htl := h.tl
  refine ⟨ht, ?_, h.fl, by rw [hs]; exact h.ll, ?_, h.ak, ⟨ownsRow_same h.arrs.outer (fun g hg => hk g (by have := h.hio g hg; omega)), h.arrs.len, fun k u x hu hx => ownsRow_same (h.arrs.row k u x hu hx) (fun g hg => hk g (by have := h.his k u g hu hg; omega)), h.arrs.apart, h.arrs.out⟩, h.hio, h.his, h.le, h.tl, h.len⟩
  · have hf := h.f
    unfold World.cell? at hf ⊢
    dsimp only at hf ⊢
    rw [hk fb (by have := h.fl; omega)]
    exact hf
  · exact SL.keep h.ar h.ak (Nat.le_of_eq hs.symm) (fun k hk' _ => hk k (by omega))
theorem EvM.trap (h : EvM w tb fb lo hi va v2 vs A a none) : EvM ((w.setCell ⟨tb, 2, none⟩ (.bool true)).setCell ⟨tb, 3, none⟩ (.bool true)) tb fb lo hi va v2 vs A a (some none) :=
  h.tset (some none) (by simp) (fun k hk => (Below.heap_setCell _ ⟨tb, 3, none⟩ _ k hk).trans (Below.heap_setCell _ ⟨tb, 2, none⟩ _ k hk)) (heap_setCell_same _ tb 3 _ _ _ (heap_setCell_same _ tb 2 _ _ _ h.t))
theorem EvM.ret (h : EvM w tb fb lo hi va v2 vs A a none) (v : Int) : EvM ((w.setCell ⟨tb, 2, none⟩ (.bool true)).setCell ⟨tb, 4, none⟩ (.int .i64 v)) tb fb lo hi va v2 vs A a (some (some v)) :=
  h.tset (some (some v)) (by simp) (fun k hk => (Below.heap_setCell _ ⟨tb, 4, none⟩ _ k hk).trans (Below.heap_setCell _ ⟨tb, 2, none⟩ _ k hk)) (heap_setCell_same _ tb 4 _ _ _ (heap_setCell_same _ tb 2 _ _ _ h.t))
/-- a word of an array is set -/
theorem EvM.setA (h : EvM w tb fb lo hi va v2 vs A a e) {k g : Nat} {x : List Int} {ca : Nat} (hk : a[k]? = some x) (hu : vs[k]? = some (.slice (some ⟨g, 0, none⟩) x.length ca)) (j : Nat) (y : Int) :
    EvM (w.setCell ⟨g, j, none⟩ (.int .i64 y)) tb fb lo hi va v2 vs A (a.set k (x.set j y)) e := by
  have hr := h.arrs.row k _ x hu hk
  obtain ⟨h1, h2⟩ := hr.stored j (.int .i64 y)
  have hgb := (hr.lt g rfl).1
  have hgh := h.his k _ g hu rfl
  have hle := h.le
  have htl := h.tl
  have hfl := h.fl
  have hne : ∀ i, i ≠ g → (w.setCell ⟨g, j, none⟩ (.int .i64 y)).heap[i]? = w.heap[i]? := fun i hi => Below.heap_setCell w ⟨g, j, none⟩ _ i hi
  refine ⟨(hne tb (by omega)).trans h.t, ?_, h.fl, by simpa using h.ll, ?_, h.ak, ⟨ownsRow_setCell_other h.arrs.outer (h.arrs.out k _ g hu rfl) _, by simpa using h.arrs.len, fun k' u b hu' hb => ?_, h.arrs.apart, h.arrs.out⟩, h.hio, h.his, h.le, h.tl, by simpa using h.len⟩
  · have hf := h.f
    unfold World.cell? at hf ⊢
    dsimp only at hf ⊢
    rw [hne fb (by omega)]
    exact hf
  · exact SL.keep h.ar h.ak (by simp) (fun i hi _ => hne i (by omega))
  · by_cases hkk : k' = k
    · subst hkk
      rw [hu] at hu'
      injection hu' with hu'
      subst hu'
      have hb' : b = x.set j y := by
        simp only [List.getElem?_set] at hb
        split at hb
        · split at hb
          · exact (Option.some.inj hb).symm
          · cases hb
        · rename_i hne; exact absurd trivial hne
      subst hb'
      rw [List.length_set, map_set_int]
      exact h1
    · have hb' : a[k']? = some b := by
        simp only [List.getElem?_set] at hb
        rw [if_neg (fun e => hkk e.symm)] at hb
        exact hb
      refine ownsRow_setCell_other (h.arrs.row k' u b hu' hb') ?_ _
      intro e
      exact hkk (h.arrs.apart k' k u _ g hu' hu e rfl)
end
theorem evEq (p : Ev.Par) (nm : List UInt8) (B : Nat) (w : World) (hB : B < w.heap.size) (hc : w.cell? ⟨B, 0, none⟩ = some (.string ⟨(nm).toArray⟩)) :
    Calls Tryd.prog 141 #[parV p, .pointer (some ⟨B, 0, none⟩)] w fun r w' => r = .returned (.bool (p.name == nm)) ∧ Below w.heap.size w w' := by
  unfold parV
  have hne : B ≠ w.heap.size := by omega
  cases h : p.name == nm with
  | true =>
    obtain rfl : p.name = nm := by simpa using h
    go_enter Tryd.func141, Tryd.ntmps141
    go_wp2
    go_ret
    exact ⟨by first | rfl | (simp [h]), by (repeat' first | with_reducible (first | exact Below.refl _ _ | assumption | refine Below.alloc ?_ ?_ _ | refine below_drewN ?_ _ | refine Below.drew ?_ | refine Below.setCell ?_ ?_ _ | refine Below.trans ?_ (Below.mono (by with_reducible assumption) ?_)) | go_size)⟩
  | false =>
    go_enter Tryd.func141, Tryd.ntmps141
    go_wp2
    go_ret
    exact ⟨by first | rfl | (simp [h]), by (repeat' first | with_reducible (first | exact Below.refl _ _ | assumption | refine Below.alloc ?_ ?_ _ | refine below_drewN ?_ _ | refine Below.drew ?_ | refine Below.setCell ?_ ?_ _ | refine Below.trans ?_ (Below.mono (by with_reducible assumption) ?_)) | go_size)⟩
set_option maxRecDepth 4000 in
set_option maxHeartbeats 3200000 in
theorem evIdx (A : List Ev.Par) (v2 : Value) (nm : List UInt8) (B : Nat) (w : World) (h : RPars w v2 A) (hB : B < w.heap.size) (hc : w.cell? ⟨B, 0, none⟩ = some (.string ⟨(nm).toArray⟩)) (hf : Ev.arrI A nm < A.length) :
    Calls Tryd.prog 126 #[v2, .func (.func 141) #[] #[.pointer (some ⟨B, 0, none⟩)]] w fun r w' => r = .returned (.int .i64 ((Ev.arrI A nm : Nat) : Int)) ∧ Below w.heap.size w w' := by
  obtain ⟨R, hR⟩ : ∃ R, Ev.arrI A nm = R := ⟨_, rfl⟩
  rw [hR] at hf ⊢
  obtain ⟨a, c, rfl, _, hcm⟩ := SL.form h
  unfold maxLen at hcm
  have HH := Lib.hid h
  have HR := Lib.hid hR
  have HC := Lib.hid hc
  clear h hR hc
  go_enter Tryd.func126, Tryd.ntmps126
  go_upto_region 2 with fail
  go_loopw [8] (fun ii wr => ∃ i : Nat, i ≤ R ∧ ii = .int .i64 (i : Int) ∧ Hid (∀ j q, j < i → A[j]? = some q → q.name ≠ nm) ∧ Below w.heap.size w wr) (fun ii _ => A.length - (intOf ii).toNat)
  case atStart => exact ⟨0, by omega, rfl, Lib.hid (fun j q hj => absurd hj (Nat.not_lt_zero _)), by (repeat' first | with_reducible (first | exact Below.refl _ _ | assumption | refine Below.alloc ?_ ?_ _ | refine below_drewN ?_ _ | refine Below.drew ?_ | refine Below.setCell ?_ ?_ _ | refine Below.trans ?_ (Below.mono (by with_reducible assumption) ?_)) | go_size)⟩
  case round =>
  obtain ⟨i, hi, rfl, HN, hbr⟩ := hrel
  have hlt : i < A.length := by omega
  obtain ⟨p, hp⟩ : ∃ p, A[i]? = some p := ⟨_, List.getElem?_eq_getElem hlt⟩
  obtain ⟨ba, oa, rfl, hba, hpa⟩ : ∃ ba oa, a = some ⟨ba, oa, none⟩ ∧ ba < w.heap.size ∧ ParsAt w ba oa A := by
    rcases (RPars.at_ HH.out).2 with h | h
    · rw [h] at hlt; simp at hlt
    · exact h
  obtain ⟨p0, p1, p2⟩ := hpa i p hp
  replace p0 := (hbr.cell (p := ⟨ba, oa + i * 3, none⟩) hba).trans p0
  replace p1 := (hbr.cell (p := ⟨ba, oa + i * 3 + 1, none⟩) hba).trans p1
  replace p2 := (hbr.cell (p := ⟨ba, oa + i * 3 + 2, none⟩) hba).trans p2
  have zb : ba < wr.heap.size := Nat.lt_of_lt_of_le hba hbr.size
  have CE := Lib.hid (evEq p nm B wr (Nat.lt_of_lt_of_le hB hbr.size) ((hbr.cell (p := ⟨B, 0, none⟩) hB).trans HC.out))
  unfold parV at CE
  have HP := Lib.hid hp
  clear hp hpa
  cases hq : p.name == nm with
  | true =>
    have HX := Lib.hid (show i = R by rw [← HR.out]; exact (Ev.arrI_at HP.out (by simpa using hq) HN.out).symm)
    rw [hq] at CE
    clear hq
    go_wp2_with (go_at_call 141; refine CE.out.mono ?_; rintro r w5 ⟨rfl, hb5⟩)
    go_ret
    exact ⟨by rw [← HX.out]; rfl, hbr.trans (hb5.mono hbr.size)⟩
  | false =>
    have HX := Lib.hid (show i ≠ R from fun e => by
      have h1 : Ev.arrI A nm = i := HR.out.trans e.symm
      unfold Ev.arrI at h1
      have h2 := List.findIdx_getElem (xs := A) (p := fun p => p.name == nm) (w := by rw [h1]; exact hlt)
      have h3 := HP.out
      rw [List.getElem?_eq_getElem hlt] at h3
      injection h3 with h3
      simp only [h1, h3] at h2
      rw [hq] at h2; cases h2)
    have HY := Lib.hid (show ∀ j q, j < i + 1 → A[j]? = some q → q.name ≠ nm from fun j q hj hjq => by
      by_cases e : j = i
      · subst e
        rw [HP.out] at hjq
        injection hjq with hjq
        subst hjq
        simpa using hq
      · exact HN.out j q (by omega) hjq)
    rw [hq] at CE
    clear hq HN
    have hi2 : i + 1 ≤ R := by have := HX.out; omega
    clear HX
    go_wp2_with (go_at_call 141; refine CE.out.mono ?_; rintro r w5 ⟨rfl, hb5⟩)
    go_roundw
    case rel => exact ⟨i + 1, hi2, by go_num, HY, hbr.trans (hb5.mono hbr.size)⟩
    case measure => simp [intOf]; omega
set_option maxRecDepth 4000 in
set_option maxHeartbeats 1600000 in
/-- (*teller).array -/
theorem evArr {tb fb lo hi : Nat} {va v2 : Value} {vs : List Value} {A : List Ev.Par} {a : Ev.Ars} {e : Option (Option Int)} (nm : List UInt8) (w : World) (h : EvM w tb fb lo hi va v2 vs A a e) (hf : Ev.arrI A nm < A.length) :
    Calls Tryd.prog 122 #[.pointer (some ⟨tb, 0, none⟩), .string ⟨(nm).toArray⟩] w fun r w' => r = .returned (.int .i64 ((Ev.arrI A nm : Nat) : Int)) ∧ Below w.heap.size w w' := by
  have c0 : w.cell? ⟨tb, 0, none⟩ = some (.pointer (some ⟨fb, 0, none⟩)) := h.cell 0
  have c1 := h.f
  have zt := h.lt
  have zf : fb < w.heap.size := Nat.lt_of_lt_of_le h.fl h.ll
  obtain ⟨x, c, rfl, _, _⟩ := SL.form h.ar
  have bA : Below w.heap.size w (w.alloc (.cells #[.string ⟨(nm).toArray⟩] 9)) := (Below.refl _ _).alloc (Nat.le_refl _) _
  have CI := Lib.hid (evIdx A (.slice x A.length c) nm w.heap.size _ (h.ar.on bA) (by simp) (by simp) hf)
  generalize Ev.arrI A nm = R at *
  clear h
  go_enter Tryd.func122, Tryd.ntmps122
  go_wp2_with (go_at_call 126; refine CI.out.mono ?_; rintro r w5 ⟨rfl, hb5⟩)
  go_ret
  exact ⟨rfl, bA.trans (hb5.mono bA.size)⟩
set_option maxRecDepth 4000 in
set_option maxHeartbeats 1600000 in
/-- (*teller).place: there is such a place -/
theorem evPlace {tb fb lo hi : Nat} {va v2 : Value} {vs : List Value} {A : List Ev.Par} {a : Ev.Ars} (k : Nat) (x : List Int) (n : Int) (w : World) (h : EvM w tb fb lo hi va v2 vs A a none) (hk : a[k]? = some x) :
    Calls Tryd.prog 123 #[.pointer (some ⟨tb, 0, none⟩), .int .i64 (k : Int), .int .i64 n] w fun r w' => r = .returned (.bool (decide (n < (x.length : Int)))) ∧ SFr (fun j => j = tb) w w' ∧ EvM w' tb fb lo hi va v2 vs A a (if n < (x.length : Int) then none else some none) := by
  obtain ⟨bo, co, X, ca, hva, h1, h2, h3, h4, h5, h6, h7, _⟩ := h.arrs.at_ hk
  have c1 : w.cell? ⟨tb, 1, none⟩ = some va := h.cell 1
  have c2 : w.cell? ⟨tb, 2, none⟩ = some (.bool false) := h.cell 2
  have c3 : w.cell? ⟨tb, 3, none⟩ = some (.bool false) := h.cell 3
  have zt := h.lt
  have f2 := h.free 2
  have f3 := h.free 3
  have HH := Lib.hid h
  rw [hva] at c1
  clear h hva h1 h5 h7
  go_enter Tryd.func123, Tryd.ntmps123
  by_cases hn : n < (x.length : Int)
  case pos =>
    have g0 : decide (n < (x.length : Int)) = true := decide_eq_true hn
    rw [if_pos hn, g0]
    clear hn
    go_wp2_with fail
    go_ret
    exact ⟨rfl, SFr.refl _ _, HH.out⟩
  case neg =>
    have g0 : decide (n < (x.length : Int)) = false := decide_eq_false hn
    rw [if_neg hn, g0]
    clear hn
    go_wp2_with fail
    go_ret
    exact ⟨rfl, (SFr.put (S := fun j => j = tb) w tb 2 _ rfl).trans (SFr.put (S := fun j => j = tb) _ tb 3 _ rfl) (fun _ _ h => h), HH.out.trap⟩
end Go.Proofs.YtpbflgemhcaooaaDoor
/- Chapter 5, plainly: words stay words; names stay names. -/
namespace Ev
set_option linter.unusedVariables false
def W32 (n : Int) : Prop := 0 ≤ n ∧ n ≤ 4294967295
def WN (l : Nms) : Prop := ∀ p ∈ l, W32 p.2
def WA (a : Ars) : Prop := ∀ x ∈ a, ∀ v ∈ x, W32 v
theorem w32_zero : W32 0 := ⟨Int.le_refl 0, by omega⟩
theorem getN_word {l : Nms} (h : WN l) (n : List UInt8) : W32 (getN l n) := by
  induction l with
  | nil => exact w32_zero
  | cons p l ih =>
    obtain ⟨m, v⟩ := p
    unfold getN
    split
    · exact h (m, v) (by simp)
    · exact ih (fun q hq => h q (by simp [hq]))
theorem setN_word {l : Nms} (h : WN l) (n : List UInt8) {x : Int} (hx : W32 x) : WN (setN l n x) := by
  induction l with
  | nil => exact h
  | cons p l ih =>
    obtain ⟨m, v⟩ := p
    have h2 := ih (fun q hq => h q (by simp [hq]))
    unfold setN
    split
    · intro q hq
      rcases List.mem_cons.1 hq with rfl | hq
      · exact hx
      · exact h q (by simp [hq])
    · intro q hq
      rcases List.mem_cons.1 hq with rfl | hq
      · exact h (m, v) (by simp)
      · exact h2 q hq
theorem setN_fst : ∀ (l : Nms) (n : List UInt8) (x : Int), (setN l n x).map Prod.fst = l.map Prod.fst
  | [], _, _ => rfl
  | (m, v) :: r, n, x => by
    unfold setN
    split
    · rfl
    · simp [setN_fst r n x]
theorem nat_w32 {n : Nat} (h : n < 4294967296) : W32 (n : Int) := ⟨by omega, by omega⟩
theorem twoN_w32 (op : Int) {x y : Nat} (hx : x < 4294967296) (hy : y < 4294967296) : twoN op x y < 4294967296 := by
  unfold twoN
  by_cases h1 : op = 1
  · rw [if_pos h1]; exact Nat.mod_lt _ (by decide)
  rw [if_neg h1]
  by_cases h2 : op = 2
  · rw [if_pos h2]; exact wsub_lt _ _
  rw [if_neg h2]
  by_cases h3 : op = 3
  · rw [if_pos h3]; exact and_lt hx
  rw [if_neg h3]
  by_cases h4 : op = 4
  · rw [if_pos h4]; exact or_lt hx hy
  rw [if_neg h4]
  by_cases h5 : op = 5
  · rw [if_pos h5]; exact xor_lt hx hy
  rw [if_neg h5]
  by_cases h6 : op = 6
  · rw [if_pos h6]; exact Nat.mod_lt _ (by decide)
  rw [if_neg h6]
  by_cases h7 : op = 7
  · rw [if_pos h7]; exact Nat.lt_of_le_of_lt (Nat.div_le_self _ _) hx
  rw [if_neg h7]
  by_cases h8 : op = 8
  · rw [if_pos h8]; exact Nat.mod_lt _ (by decide)
  rw [if_neg h8]
  by_cases h9 : op = 9
  · rw [if_pos h9]
    by_cases h : y = 0
    · rw [if_pos h]; decide
    · rw [if_neg h]; exact Nat.lt_of_le_of_lt (Nat.div_le_self _ _) hx
  rw [if_neg h9]
  by_cases h10 : op = 10
  · rw [if_pos h10]
    by_cases h : y = 0
    · rw [if_pos h]; exact hx
    · rw [if_neg h]; exact Nat.lt_of_le_of_lt (Nat.mod_le _ _) hx
  rw [if_neg h10]
  by_cases h11 : op = 11
  · rw [if_pos h11]
    by_cases h : x < y
    · rw [if_pos h]; decide
    · rw [if_neg h]; decide
  rw [if_neg h11]
  by_cases h12 : op = 12
  · rw [if_pos h12]
    by_cases h : x = y
    · rw [if_pos h]; decide
    · rw [if_neg h]; decide
  rw [if_neg h12]
  decide
theorem two_w32 (op a b : Int) : W32 (two op a b) := nat_w32 (twoN_w32 op (low_lt a) (low_lt b))
theorem sel_w32 (a b c : Int) : W32 (sel a b c) := by
  unfold sel
  split
  · exact nat_w32 (low_lt _)
  · exact nat_w32 (low_lt _)
theorem exE_word {A : List Par} {a : Ars} {l : Nms} (hl : WN l) (ha : WA a) {e : Ex} (h : WfE e) {x : Int} (hx : exE A a l e = some x) : W32 x := by
  rw [exE_eq] at hx
  cases hs : exsE A a l e.args with
  | none => rw [hs] at hx; cases hx
  | some v =>
    rw [hs] at hx
    dsimp only at hx
    split at hx
    · injection hx with hx; rw [← hx]; exact getN_word hl _
    split at hx
    · injection hx with hx; rw [← hx]; exact two_w32 _ _ _
    split at hx
    · injection hx with hx; rw [← hx]; exact sel_w32 _ _ _
    split at hx
    · split at hx
      · injection hx with hx
        rw [← hx, List.getD_eq_getElem?_getD]
        cases h1 : (a.getD (arrI A e.name) [])[(v.getD 0 0).toNat]? with
        | none => exact w32_zero
        | some y =>
          refine ha (a.getD (arrI A e.name) []) ?_ y (List.mem_of_getElem? h1)
          rw [List.getD_eq_getElem?_getD] at h1 ⊢
          cases h2 : a[arrI A e.name]? with
          | none => rw [h2] at h1; simp at h1
          | some z => exact List.mem_of_getElem? h2
      · cases hx
    · injection hx with hx
      rename_i k2 k3 k4 k5
      cases h with
      | num n h1 h2 => rw [← hx]; exact ⟨h1, by show n ≤ _; omega⟩
      | name s h1 => exact absurd rfl k2
      | op n a b h1 h2 h3 h4 => exact absurd rfl k3
      | sel a b c h1 h2 h3 => exact absurd rfl k4
      | «at» s a h1 h2 => exact absurd rfl k5
theorem exsE_word {A : List Par} {a : Ars} {l : Nms} (hl : WN l) (ha : WA a) : ∀ {es : List Ex} (h : ∀ e ∈ es, WfE e) {v : List Int}, exsE A a l es = some v → v.length = es.length ∧ ∀ x ∈ v, W32 x
  | [], _, v, hv => by
    rw [exsE_nil] at hv
    injection hv with hv
    subst hv
    exact ⟨rfl, fun x hx => by cases hx⟩
  | e :: es, h, v, hv => by
    rw [exsE_cons] at hv
    cases h1 : exE A a l e with
    | none => rw [h1] at hv; cases hv
    | some x =>
      rw [h1] at hv
      dsimp only at hv
      cases h2 : exsE A a l es with
      | none => rw [h2] at hv; cases hv
      | some r =>
        rw [h2] at hv
        injection hv with hv
        subst hv
        have ⟨h3, h4⟩ := exsE_word hl ha (fun e he => h e (by simp [he])) h2
        refine ⟨by simp [h3], fun y hy => ?_⟩
        rcases List.mem_cons.1 hy with rfl | hy
        · exact exE_word hl ha (h e (by simp)) h1
        · exact h4 y hy
theorem getD_word {v : List Int} (h : ∀ x ∈ v, W32 x) (n : Nat) : W32 (v.getD n 0) := by
  rw [List.getD_eq_getElem?_getD]
  cases e : v[n]? with
  | none => exact w32_zero
  | some x => exact h x (List.mem_of_getElem? e)
/-- what a statement keeps -/
structure Pres (l : Nms) (a : Ars) (o : EO) : Prop where
  wn : WN o.l
  wa : WA o.a
  sz : o.a.map List.length = a.map List.length
  res : ∀ v, o.e = some (some v) → W32 v
  nm : ∃ pre, o.l.map Prod.fst = pre ++ l.map Prod.fst
theorem Pres.id_ {l : Nms} {a : Ars} (hl : WN l) (ha : WA a) : Pres l a ⟨l, a, none⟩ := ⟨hl, ha, rfl, fun v h => (by cases h), [], rfl⟩
theorem back_fst {l : Nms} {o : EO} (h : ∃ pre, o.l.map Prod.fst = pre ++ l.map Prod.fst) : (o.back l).l.map Prod.fst = l.map Prod.fst := by
  obtain ⟨pre, h⟩ := h
  have hl : o.l.length = pre.length + l.length := by have := congrArg List.length h; simpa using this
  show (o.l.drop (o.l.length - l.length)).map Prod.fst = _
  rw [List.map_drop, h, show o.l.length - l.length = pre.length by omega, List.drop_left]
theorem Pres.back {l l0 : Nms} {a : Ars} {o : EO} (h : Pres l a o) (h0 : ∃ pre, l.map Prod.fst = pre ++ l0.map Prod.fst) : Pres l0 a (o.back l0) := by
  obtain ⟨p1, h1⟩ := h.nm
  obtain ⟨p2, h2⟩ := h0
  exact ⟨fun p hp => h.wn p (List.mem_of_mem_drop hp), h.wa, h.sz, h.res, [], back_fst ⟨p1 ++ p2, by rw [h1, h2, List.append_assoc]⟩⟩
theorem Pres.trans {l : Nms} {a : Ars} {o o' : EO} (h : Pres l a o) (k : Pres o.l o.a o') : Pres l a o' := by
  obtain ⟨p1, h1⟩ := h.nm
  obtain ⟨p2, h2⟩ := k.nm
  exact ⟨k.wn, k.wa, k.sz.trans h.sz, k.res, p2 ++ p1, by rw [h2, h1, List.append_assoc]⟩
theorem times_pres {f : Int → Nms → Ars → EO} {m : Int} {M : List (List UInt8)} (h : ∀ j l a, 0 ≤ j → j < m → WN l → WA a → l.map Prod.fst = M → Pres l a (f j l a) ∧ (f j l a).l.map Prod.fst = M) : ∀ (n : Nat) (j : Int) (l : Nms) (a : Ars), 0 ≤ j → j + n ≤ m → WN l → WA a → l.map Prod.fst = M → Pres l a (timesE f n j l a) ∧ (timesE f n j l a).l.map Prod.fst = M
  | 0, j, l, a, _, _, hl, ha, hM => ⟨Pres.id_ hl ha, hM⟩
  | n + 1, j, l, a, h0, hj, hl, ha, hM => by
    have ⟨h1, h2⟩ := h j l a h0 (by omega) hl ha hM
    unfold timesE
    split
    · exact ⟨h1, h2⟩
    · have ⟨h3, h4⟩ := times_pres h n (j + 1) _ _ (by omega) (by omega) h1.wn h1.wa h2
      exact ⟨h1.trans h3, h4⟩
/-- the names behind a statement -/
def nextN (l : List (List UInt8)) (t : St1) (o : EO) : List (List UInt8) := if t.kind = 1 ∧ o.e = none then t.name :: l else l
theorem set_words {a : Ars} (ha : WA a) (k j : Nat) {y : Int} (hy : W32 y) : WA (a.set k ((a.getD k []).set j y)) := by
  intro x hx v hv
  rcases List.mem_or_eq_of_mem_set hx with h | h
  · exact ha x h v hv
  · subst h
    rcases List.mem_or_eq_of_mem_set hv with h | h
    · rw [List.getD_eq_getElem?_getD] at h
      cases e : a[k]? with
      | none => rw [e] at h; simp at h
      | some z => rw [e] at h; exact ha z (List.mem_of_getElem? e) v h
    · rw [h]; exact hy
theorem set_sizes (a : Ars) (k j : Nat) (y : Int) : (a.set k ((a.getD k []).set j y)).map List.length = a.map List.length := by
  apply List.ext_getElem?
  intro i
  rw [List.getElem?_map, List.getElem?_map, List.getElem?_set]
  split
  · rename_i e
    subst e
    split
    · rename_i h
      rw [List.getD_eq_getElem?_getD, List.getElem?_eq_getElem h]
      simp
    · rename_i h
      rw [List.getElem?_eq_none (by omega)]
  · rfl
mutual
theorem stE_pres (A : List Par) : ∀ (t : St1) (l : Nms) (a : Ars), WfS t → WN l → WA a → Pres l a (stE A l a t) ∧ (stE A l a t).l.map Prod.fst = nextN (l.map Prod.fst) t (stE A l a t)
  | .mk kind n nm sec args thn els, l, a, h, hl, ha => by
    have hw := wf_st h
    have w1 : ∀ e ∈ args, WfE e := hw.args
    have w2 : ∀ s ∈ thn, WfS s := hw.thn
    have w3 : ∀ s ∈ els, WfS s := hw.els
    have w4 : kind = 5 → 0 ≤ n ∧ n ≤ 8 := fun e => by
      have hk := hw.kinds
      simp only [St1.kind, St1.n] at hk
      omega
    have hn1 : ∀ o : EO, ¬ o.e = none → nextN (l.map Prod.fst) (.mk kind n nm sec args thn els) o = l.map Prod.fst := fun o h => if_neg (fun e => h e.2)
    have hn2 : ¬ kind = 1 → ∀ o : EO, nextN (l.map Prod.fst) (.mk kind n nm sec args thn els) o = l.map Prod.fst := fun h o => if_neg (fun e => h e.1)
    have hn3 : kind = 1 → ∀ o : EO, o.e = none → nextN (l.map Prod.fst) (.mk kind n nm sec args thn els) o = nm :: l.map Prod.fst := fun h o k => if_pos ⟨h, k⟩
    rw [stE]
    cases hs : exsE A a l args with
    | none =>
      dsimp only
      exact ⟨⟨hl, ha, rfl, fun v h => (by cases h), [], rfl⟩, by rw [hn1 _ (fun h => by cases h)]⟩
    | some v =>
      dsimp only
      have ⟨_, hv⟩ := exsE_word hl ha w1 hs
      by_cases k1 : kind = 1
      · rw [if_pos k1]
        refine ⟨⟨fun p hp => ?_, ha, rfl, fun v h => (by cases h), [nm], rfl⟩, by rw [hn3 k1 _ rfl]; rfl⟩
        rcases List.mem_cons.1 hp with rfl | hp
        · exact getD_word hv 0
        · exact hl p hp
      rw [if_neg k1]
      rw [hn2 k1]
      by_cases k2 : kind = 2
      · rw [if_pos k2]
        exact ⟨⟨setN_word hl nm (getD_word hv 0), ha, rfl, fun v h => (by cases h), [], setN_fst _ _ _⟩, setN_fst _ _ _⟩
      rw [if_neg k2]
      by_cases k3 : kind = 3
      · rw [if_pos k3]
        split
        · exact ⟨⟨hl, set_words ha _ _ (getD_word hv 1), set_sizes _ _ _ _, fun v h => (by cases h), [], rfl⟩, rfl⟩
        · exact ⟨⟨hl, ha, rfl, fun v h => (by cases h), [], rfl⟩, rfl⟩
      rw [if_neg k3]
      by_cases k4 : kind = 4
      · rw [if_pos k4]
        split
        · have p := blE_pres A thn l a w2 hl ha
          exact ⟨p.back ⟨[], rfl⟩, back_fst p.nm⟩
        · have p := blE_pres A els l a w3 hl ha
          exact ⟨p.back ⟨[], rfl⟩, back_fst p.nm⟩
      rw [if_neg k4]
      by_cases k5 : kind = 5
      · rw [if_pos k5]
        have hn := w4 k5
        refine times_pres (m := n) (M := l.map Prod.fst) (fun j l a h0 hj hl ha hM => ?_) n.toNat 0 l a (by omega) (by omega) hl ha rfl
        have p := blE_pres A thn ((nm, j) :: l) a w2 (fun p hp => by
          rcases List.mem_cons.1 hp with rfl | hp
          · exact ⟨h0, by show j ≤ 4294967295; omega⟩
          · exact hl p hp) ha
        have q := p.back (l0 := l) ⟨[nm], rfl⟩
        obtain ⟨p1, e1⟩ := p.nm
        exact ⟨q, (back_fst (l := l) ⟨p1 ++ [nm], by rw [e1]; simp⟩).trans hM⟩
      rw [if_neg k5]
      exact ⟨⟨hl, ha, rfl, fun x h => (by injection h with h; injection h with h; rw [← h]; exact getD_word hv 0), [], rfl⟩, rfl⟩
theorem blE_pres (A : List Par) : ∀ (ts : List St1) (l : Nms) (a : Ars), (∀ t ∈ ts, WfS t) → WN l → WA a → Pres l a (blE A l a ts)
  | [], l, a, _, hl, ha => by rw [blE]; exact Pres.id_ hl ha
  | t :: ts, l, a, h, hl, ha => by
    rw [blE]
    have p := (stE_pres A t l a (h t (by simp)) hl ha).1
    split
    · exact p
    · exact p.trans (blE_pres A ts _ _ (fun s hs => h s (by simp [hs])) p.wn p.wa)
end
/-! ### names -/
def NmOk (L : List Par) (l : Nms) : Prop := l.map Prod.fst = (L.map Par.name).reverse
theorem findP_mem {A : List Par} {n : List UInt8} {v : Par} (h : findP A n = some v) : v ∈ A ∧ v.name = n := by
  have key : ∀ k, 0 ≤ nameTo A n k → ∃ p, A[(nameTo A n k).toNat]? = some p ∧ p.name = n := by
    intro k
    induction k with
    | zero => intro h; exact absurd h (by show ¬ (0 : Int) ≤ -1; omega)
    | succ k ih =>
      intro h
      unfold nameTo at h ⊢
      split at h
      · rename_i hx
        rw [if_pos hx]
        cases e : A[k]? with
        | none => rw [e] at hx; cases hx
        | some p =>
          rw [e] at hx
          injection hx with hx
          exact ⟨p, by simpa using e, hx⟩
      · rename_i hx
        rw [if_neg hx]
        exact ih h
  by_cases h0 : nameI A n < 0
  · rw [findP_none h0] at h; cases h
  · obtain ⟨p, e1, e2⟩ := key A.length (by unfold nameI at h0; omega)
    unfold findP at h
    rw [if_neg h0] at h
    have h1 : A[(nameI A n).toNat]? = some p := e1
    rw [h1] at h
    injection h with h
    subst h
    exact ⟨List.mem_of_getElem? h1, e2⟩
theorem nextN_ok {L : List Par} {l : Nms} {t : St1} {o : EO} (h : NmOk L l) (h1 : o.l.map Prod.fst = nextN (l.map Prod.fst) t o) (he : o.e = none) : NmOk (nextL L t) o.l := by
  unfold NmOk at h ⊢
  rw [h1]
  unfold nextN nextL
  by_cases k : t.kind = 1
  · rw [if_pos ⟨k, he⟩, if_pos k, h]
    simp
  · rw [if_neg (fun e => k e.1), if_neg k]
    exact h
end Ev
/- Chapter 1: Two and Sel leave the world as it is. -/
namespace Go.Proofs.YtpbflgemhcaooaaDoor
open Go.RowKit
set_option linter.unusedSimpArgs false
set_option linter.unusedVariables false
set_option maxHeartbeats 400000 in
theorem sel_same (a b c : Int) (w : World) :
    Calls Tryd.prog 140 #[.int .i64 a, .int .i64 b, .int .i64 c] w fun e w' => e = .returned (.int .i64 (Ev.sel a b c)) ∧ w' = w := by
  have ha := u32_low a
  have hb := u32_low b
  have hc := u32_low c
  have lb := Ev.low_lt b
  have lc := Ev.low_lt c
  have s1 := Lib.hid (@sel_yes a b c)
  have s2 := Lib.hid (@sel_no a b c)
  generalize Ev.low a = x at *
  generalize Ev.low b = y at *
  generalize Ev.low c = z at *
  generalize Ev.sel a b c = r at *
  go_enter Tryd.func140, Tryd.ntmps140
  go_wp2
  all_goals
    go_ret
    (try simp only [bne_iff_ne, ne_eq, bne_eq_false_iff_eq, beq_iff_eq, beq_eq_false_iff_ne] at *)
    refine ⟨?_, by first | rfl | trivial⟩
    first
    | (have h0 : ¬ ((x : Int) = 0) := by omega
       rw [s1.out h0]; rfl)
    | (have h0 : ((x : Int) = 0) := by omega
       rw [s2.out h0]; rfl)

set_option maxHeartbeats 4000000 in
theorem two_same (op a b : Int) (w : World) :
    Calls Tryd.prog 139 #[.int .i64 op, .int .i64 a, .int .i64 b] w fun e w' => e = .returned (.tuple #[.int .i64 (Ev.two op a b), .int .i64 (Ev.twoErr op)]) ∧ w' = w := by
  have ha := u32_low a
  have hb := u32_low b
  have la := Ev.low_lt a
  have lb := Ev.low_lt b
  unfold Ev.two
  generalize Ev.low a = x at *
  generalize Ev.low b = y at *
  have hy : y % 32 < 32 := Nat.mod_lt _ (by decide)
  have q1 := u32_and_nat x y la lb
  have q2 := u32_or_nat x y la lb
  have q3 := u32_xor_nat x y la lb
  have l1 : x &&& y < 4294967296 := Ev.and_lt la
  have l2 : x ||| y < 4294967296 := Ev.or_lt la lb
  have l3 : x ^^^ y < 4294967296 := Ev.xor_lt la lb
  have q4 : bits BinOp.and IntKind.u32 (y : Int) 31 = ((y % 32 : Nat) : Int) := by
    have := u32_and_nat y 31 lb (by decide)
    have e := Nat.and_two_pow_sub_one_eq_mod y 5
    simp at e
    rw [e] at this
    exact this
  generalize hz1 : x &&& y = z1 at *
  generalize hz2 : x ||| y = z2 at *
  generalize hz3 : x ^^^ y = z3 at *
  have HZ := Lib.hid (And.intro hz1 (And.intro hz2 hz3))
  clear hz1 hz2 hz3
  rcases op_cases op with rfl | rfl | rfl | rfl | rfl | rfl | rfl | rfl | rfl | rfl | rfl | rfl | h
  rotate_left 12
  · rw [twoN_bad _ _ h, twoErr_bad h]
    clear HZ q1 q2 q3 q4
    go_enter Tryd.func139, Tryd.ntmps139
    go_wp2
    all_goals (go_ret2; exact ⟨rfl, rfl⟩)
  all_goals
    go_enter Tryd.func139, Tryd.ntmps139
    go_wp2
  all_goals (try go_ret2)
  all_goals (try (refine ⟨congrArg Ending.returned (congrArg Value.tuple ?_), rfl⟩))
  all_goals (try simp [Ev.twoErr, Ev.twoN])
  all_goals (try (obtain ⟨rfl, rfl, rfl⟩ := HZ.out))
  all_goals (try (first | omega | (unfold Ev.wadd; omega) | (unfold Ev.wsub; omega) | (split <;> omega)))
  all_goals
    first
    | exact cast_shl _ _
    | exact wrap_shr la
    | (have h0 : 0 < y := by assumption
       rw [if_neg (by omega)]
       exact wrap_div la)
    | (have h0 : 0 < y := by assumption
       rw [if_neg (by omega)]
       exact wrap_mod la)
    | (have h0 : ((x : Int) == (y : Int)) = true := by assumption
       rw [beq_iff_eq] at h0
       rw [if_pos (by omega)]; rfl)
    | (have h0 : ((x : Int) == (y : Int)) = false := by assumption
       rw [beq_eq_false_iff_ne] at h0
       rw [if_neg (by omega)]; rfl)
end Go.Proofs.YtpbflgemhcaooaaDoor
/- Callees that only read. -/
namespace Go.Proofs.YtpbflgemhcaooaaDoor
open Go.RowKit
/-- a quiet callee's contract, in a world that has been drawn from before -/
theorem quiet_at {P : Program} {f : FuncId} {args : Array Value} {w : World} {n a : Nat} {v : Value}
    (h : Calls P f args (w.drewN (a + n)) fun e w' => e = .returned v ∧ ∃ m, w' = (w.drewN (a + n)).drewN m) : Calls P f args (w.drewN (a + n)) fun e w'' => e = .returned v ∧ ∃ m, w'' = w.drewN (a + m) :=
  h.mono fun _ _ ⟨he, m, hm⟩ => ⟨he, n + m, by rw [hm, World.drewN_drewN, Nat.add_assoc]⟩
theorem quiet_below {P : Program} {f : FuncId} {args : Array Value} {w : World} {v : Value}
    (h : Calls P f args w fun e w' => e = .returned v ∧ ∃ n, w' = w.drewN n) : Calls P f args w fun e w' => e = .returned v ∧ Below w.heap.size w w' :=
  h.mono fun _ _ ⟨he, n, hw⟩ => ⟨he, hw ▸ below_drewN (Below.refl _ _) n⟩
theorem SL.dr {w : World} {B size n : Nat} {v : Value} {xs : List Value} (k : Nat) (h : SL w B size v n xs) : SL (w.drewN k) B size v n xs := h
end Go.Proofs.YtpbflgemhcaooaaDoor
