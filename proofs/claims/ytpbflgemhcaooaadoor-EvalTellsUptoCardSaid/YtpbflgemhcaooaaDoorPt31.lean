import Derived.Test.YtpbflgemhcaooaaDoorPt20
import Derived.Test.YtpbflgemhcaooaaDoorPt30
import Derived.Test.YtpbflgemhcaooaaDoorPt11
/- Chapter 5, plainly: arrays' sizes; how a program begins. -/
namespace Ev
set_option linter.unusedVariables false
set_option linter.unusedSimpArgs false
def SzA (A : List Par) (a : Ars) : Prop := a.map (fun x => (x.length : Int)) = A.map Par.size
def UniqA (A : List Par) : Prop := ∀ n v, findP A n = some v → A[arrI A n]? = some v
theorem SzA.len {A : List Par} {a : Ars} (h : SzA A a) : a.length = A.length := by
  have := congrArg List.length h
  simpa using this
theorem SzA.at_ {A : List Par} {a : Ars} (h : SzA A a) {i : Nat} {p : Par} (hp : A[i]? = some p) : ((a.getD i []).length : Int) = p.size := by
  have h1 : (a.map (fun x => (x.length : Int)))[i]? = (A.map Par.size)[i]? := by rw [show a.map (fun x => (x.length : Int)) = A.map Par.size from h]
  rw [List.getElem?_map, List.getElem?_map, hp] at h1
  rw [List.getD_eq_getElem?_getD]
  cases e : a[i]? with
  | none => rw [e] at h1; cases h1
  | some x => rw [e] at h1; injection h1
theorem SzA.to {A : List Par} {a a' : Ars} (h : SzA A a) (k : a'.map List.length = a.map List.length) : SzA A a' := by
  unfold SzA at h ⊢
  rw [← h]
  have h1 : ∀ x : Ars, x.map (fun y => (y.length : Int)) = (x.map List.length).map (fun n : Nat => (n : Int)) := fun x => by rw [List.map_map]; rfl
  rw [h1, h1, k]
def startN (ps : List Par) (ws : List Int) : Nms := ((ps.map Par.name).zip ws).reverse
theorem start_snoc (ps : List Par) (p : Par) (ws : List Int) (h : ws.length = ps.length + 1) : startN (ps ++ [p]) ws = (p.name, ws.getD ps.length 0) :: startN ps (ws.take ps.length) := by
  unfold startN
  have e : ws = ws.take ps.length ++ [ws.getD ps.length 0] := by
    rw [List.getD_eq_getElem?_getD, List.getElem?_eq_getElem (by omega)]
    simp only [Option.getD_some]
    rw [List.take_append_getElem, List.take_of_length_le (by omega)]
  conv => lhs; rw [e]
  rw [List.map_append, List.zip_append (by simp; omega), List.reverse_append]
  rfl
end Ev
/- Chapter 5, plainly: a whole run. -/
namespace Ev
set_option linter.unusedVariables false
def vrs (l : List Par) : List Vr := l.map fun p => ⟨p.name, p.secret, p.size⟩
def fitsE (f : Fn1) (g : Given) : Int := fits f.params.length (vrs f.arrays) g
def trapB : Option (Option Int) → Bool
  | some none => true
  | _ => false
def resI : Option (Option Int) → Int
  | some (some v) => v
  | _ => 0
def goE (f : Fn1) (g : Given) : EO := blE f.arrays (startN f.params g.words) g.arrays f.body
/-- how a program ends, of what it is given -/
def runE (f : Fn1) (g : Given) : Ended × Int :=
  if fitsE f g ≠ 0 then (⟨0, false, []⟩, fitsE f g) else (⟨resI (goE f g).e, trapB (goE f g).e, (goE f g).a⟩, 0)
structure Fit (f : Fn1) (g : Given) : Prop where
  words : g.words.length = f.params.length
  sz : SzA f.arrays g.arrays
  wn : WN (startN f.params g.words)
  wa : WA g.arrays
  ws : ∀ x ∈ g.words, W32 x
theorem isWord_w32 {n : Int} (h : isWord n = true) : W32 n := by
  unfold isWord at h
  simp at h
  exact h
theorem fit_of {f : Fn1} {g : Given} (h : fitsE f g = 0) : Fit f g := by
  unfold fitsE fits at h
  split at h
  · exact absurd h (by decide)
  rename_i h1
  split at h
  · exact absurd h (by decide)
  rename_i h2
  split at h
  case isFalse => exact absurd h (by decide)
  rename_i h3
  rw [List.all_eq_true] at h3
  have hl : g.words.length = f.params.length := by omega
  have hv : (vrs f.arrays).length = f.arrays.length := by unfold vrs; simp
  have hla : g.arrays.length = f.arrays.length := by omega
  have hs : sizesOk g.arrays (vrs f.arrays) = true := by cases hx : sizesOk g.arrays (vrs f.arrays); exact absurd hx h2; rfl
  unfold sizesOk at hs
  rw [List.all_eq_true] at hs
  have hws : ∀ x ∈ g.words, W32 x := fun x hx => isWord_w32 (h3 x (List.mem_append_left _ hx))
  refine ⟨hl, ?_, ?_, fun x hx v hv' => isWord_w32 (h3 v (List.mem_append_right _ (List.mem_flatten.2 ⟨x, hx, hv'⟩))), hws⟩
  · apply List.ext_getElem?
    intro i
    rw [List.getElem?_map, List.getElem?_map]
    by_cases hi : i < g.arrays.length
    · have h4 := hs i (List.mem_range.2 hi)
      rw [List.getElem?_eq_getElem hi, List.getElem?_eq_getElem (show i < f.arrays.length by omega)]
      have h5 : ((g.arrays.getD i []).length : Int) = ((vrs f.arrays).getD i default).size := by simpa using h4
      rw [List.getD_eq_getElem?_getD, List.getElem?_eq_getElem hi, List.getD_eq_getElem?_getD] at h5
      unfold vrs at h5
      rw [List.getElem?_map, List.getElem?_eq_getElem (show i < f.arrays.length by omega)] at h5
      simpa using h5
    · rw [List.getElem?_eq_none (by omega), List.getElem?_eq_none (by omega)]
      rfl
  · intro p hp
    unfold startN at hp
    rw [List.mem_reverse] at hp
    exact hws _ (List.of_mem_zip hp).2
theorem start_fst {ps : List Par} {ws : List Int} (h : ws.length = ps.length) : NmOk ps (startN ps ws) := by
  unfold NmOk startN
  rw [List.map_reverse]
  congr 1
  rw [List.map_fst_zip (by rw [List.length_map]; omega)]
theorem start_take {ps : List Par} {ws : List Int} {i : Nat} {p : Par} {x : Int} (hp : ps[i]? = some p) (hx : ws[i]? = some x) : startN (ps.take (i + 1)) (ws.take (i + 1)) = (p.name, x) :: startN (ps.take i) (ws.take i) := by
  have h1 := (List.getElem?_eq_some_iff.1 hp).1
  have h2 := (List.getElem?_eq_some_iff.1 hx).1
  rw [List.take_add_one, hp]
  show startN (ps.take i ++ [p]) _ = _
  rw [start_snoc _ _ _ (by rw [List.length_take, List.length_take]; omega)]
  have e : (ps.take i).length = i := by rw [List.length_take]; omega
  rw [e, List.take_take, Nat.min_eq_left (by omega), List.getD_eq_getElem?_getD, List.getElem?_take_of_lt (by omega), hx]
  rfl
/-- a right program -/
structure RightF (f : Fn1) : Prop where
  wf : ∀ t ∈ f.body, WfS t
  ty : TyB f.arrays f.params false f.body
end Ev
/- A flock with a tail: the tail's last operation may write a slot that those ahead of it look at (s += ..). -/
namespace Go.Proofs.YtpbflgemhcaooaaDoor
open Go.RowKit
set_option linter.unusedSimpArgs false
set_option linter.unusedVariables false
section
variable {P : Program} {ops : Array Oper} {Q : Exit → Act → World → Prop}
/-- the text's order is one of those that may be -/
def forward (ops : Array Oper) : Bool :=
  (List.range ops.size).all fun j => match ops[j]? with
    | none => true
    | some oj => oj.after.all (fun e => !Region.binds .any e || decide (e.on < j))
theorem forward_spec {ops : Array Oper} (h : forward ops = true) {j : Nat} {oj : Oper} (hj : ops[j]? = some oj) : ∀ e ∈ oj.after, Region.binds .any e = true → e.on < j := by
  unfold forward at h
  rw [List.all_eq_true] at h
  have h1 := h j (by rw [List.mem_range]; exact (Array.getElem?_eq_some_iff.1 hj).1)
  simp only [hj, Array.all_eq_true_iff_forall_mem, Bool.or_eq_true, Bool.not_eq_true', decide_eq_true_eq] at h1
  exact fun e he hb => (h1 e he).resolve_left (by simp [hb])
theorem forward_of {ops : Array Oper} (h : orderly ops = true) : forward ops = true := by
  unfold forward
  rw [List.all_eq_true]
  intro j hj
  rw [List.mem_range] at hj
  have hjo : ops[j]? = some ops[j] := by simp [hj]
  simp only [hjo, Array.all_eq_true_iff_forall_mem, Bool.or_eq_true, Bool.not_eq_true', decide_eq_true_eq]
  intro e he
  cases hb : Region.binds .any e with
  | false => exact .inl rfl
  | true => exact .inr ((orderly_spec h hjo).1 e he hb)
theorem ready_noneW {listed : Array Bool} (ho : forward ops = true) (h : Region.ready .any ops listed = []) (hs : listed.size = ops.size) : ∀ i, i < ops.size → listed.getD i true = true := by
  intro i hi
  cases hx : listed.getD i true with
  | true => rfl
  | false =>
    exfalso
    obtain ⟨m, hm, h1, h2⟩ := exists_least (p := fun k => !listed.getD k true) i (by simp only [hx]; rfl)
    have hml : m < ops.size := by omega
    have hrd : m ∈ Region.ready .any ops listed := by
      rw [mem_ready]
      refine ⟨by simpa using h1, ops[m], by simp [hml], fun e he hb => ?_⟩
      have hlt := forward_spec ho (j := m) (oj := ops[m]) (by simp [hml]) e he hb
      have h3 := h2 e.on hlt
      have hel : e.on < listed.size := by omega
      simp [hel] at h3 ⊢
      exact h3
    rw [h] at hrd
    cases hrd

theorem lw_anyW {p : Nat} (h : LW ops p) (ho : forward ops = true) :
    ∀ (fuel : Nat) (listed : Array Bool) (a : Act) (w : World), listed.size = ops.size → closedL ops listed → listed.getD p true = false →
    wpAny P .any ops.pop (onNormal (fun a' w' => Go.wpOp P ops Q p (fun a2 w2 => Q .normal a2 w2) a' w') Q) fuel listed.pop a w → wpAny P .any ops Q (fuel + 1) listed a w := by
  have hp := h.size
  have hall : ∀ (listed : Array Bool) (o : Oper), listed.size = ops.size → closedL ops listed → ops[p]? = some o → (∀ e ∈ o.after, Region.binds .any e = true → listed.getD e.on false = true) → ∀ k, k < ops.size → (listed.setIfInBounds p true).getD k true = true := fun listed o hsz hcl h2 h3 k hk => by
    by_cases hki : k = p
    · subst hki
      have : k < listed.size := by omega
      simp [this]
    · rw [getD_set_ne true (fun e => hki e.symm)]
      have hks : k < listed.size := by omega
      rw [show listed.getD k true = listed.getD k false by simp [hks]]
      exact waits_listed hcl h2 h3 (h.all k (by omega))
  have none_ : ∀ (listed : Array Bool), (∀ k, k < ops.size → listed.getD k true = true) → Region.ready .any ops listed = [] := fun listed hl => by
    cases hr : Region.ready .any ops listed with
    | nil => rfl
    | cons x xs =>
      have hm : x ∈ Region.ready .any ops listed := by rw [hr]; exact List.mem_cons_self
      obtain ⟨g1, g2, g3, _⟩ := mem_ready.1 hm
      rw [hl x (Array.getElem?_eq_some_iff.1 g3).1] at g1
      cases g1
  intro fuel
  induction fuel with
  | zero =>
    intro listed a w hsz hcl hl H
    refine ⟨fun hr => ?_, fun i hi => ?_⟩
    · have := ready_noneW ho hr hsz p (by omega)
      rw [this] at hl; cases hl
    · have hir := hi
      obtain ⟨h1, o, h2, h3⟩ := mem_ready.1 hi
      have hil : i < ops.size := (Array.getElem?_eq_some_iff.1 h2).1
      by_cases hip : i = p
      · subst hip
        exact wpOp_mono (fun a' w' hQ => ⟨none_ _ (hall listed o hsz hcl h2 h3), hQ⟩) H.2
      · have := (h.ready hsz (by omega : i < p)).1 hir
        rw [H.1] at this
        cases this
  | succ fuel ih =>
    intro listed a w hsz hcl hl H
    refine ⟨fun hr => ?_, fun i hi => ?_⟩
    · have := ready_noneW ho hr hsz p (by omega)
      rw [this] at hl; cases hl
    · have hir := hi
      obtain ⟨h1, o, h2, h3⟩ := mem_ready.1 hi
      have hil : i < ops.size := (Array.getElem?_eq_some_iff.1 h2).1
      by_cases hip : i = p
      · subst hip
        have hA := hall listed o hsz hcl h2 h3
        have hnil := none_ _ hA
        have hpn : Region.ready .any ops.pop listed.pop = [] := by
          cases hr : Region.ready .any ops.pop listed.pop with
          | nil => rfl
          | cons x xs =>
            have hm : x ∈ Region.ready .any ops.pop listed.pop := by rw [hr]; exact List.mem_cons_self
            obtain ⟨g1, g2, g3, _⟩ := mem_ready.1 hm
            have hx : x < i := by
              have := (Array.getElem?_eq_some_iff.1 g3).1
              simp at this
              omega
            obtain ⟨g1', _⟩ := mem_ready.1 ((h.ready hsz hx).2 hm)
            have := hA x (by omega)
            rw [getD_set_ne true (by omega)] at this
            rw [this] at g1'
            cases g1'
        exact wpOp_mono (fun a' w' hQ => ⟨fun _ => hQ, by rw [hnil]; simp⟩) (H.1 hpn)
      · have hlt : i < p := by omega
        have h4 := H.2 i ((h.ready hsz hlt).1 hir)
        refine wpOp_mono (fun a' w' h5 => ?_) (h.wpOp hlt h4)
        refine ih (listed.setIfInBounds i true) a' w' (by simpa using hsz) (closedL_set hcl h2 h3) ?_ ?_
        · rw [getD_set_ne true hip]; exact hl
        · rw [pop_set (by omega) hlt]; exact h5
theorem tail_upW (l : List Oper) : ∀ (n : Nat) (ts : List Oper) (Q : Exit → Act → World → Prop), ts.length = n → (∀ i, i < ts.length → lastIn (l ++ ts.take (i + 1)).toArray (l.length + i) = true) → (∀ i, i ≤ ts.length → forward (l ++ ts.take i).toArray = true) →
    ∃ Qh : Exit → Act → World → Prop, (∀ a w, wpList P (l ++ ts).toArray Q ts a w → Qh .normal a w) ∧ ∀ fuel a w, wpAny P .any l.toArray Qh fuel (Array.replicate l.length false) a w → wpAny P .any (l ++ ts).toArray Q (fuel + ts.length) (Array.replicate (l ++ ts).length false) a w
  | 0, ts, Q, hn, _, _ => by
    have : ts = [] := List.eq_nil_of_length_eq_zero hn
    subst this
    exact ⟨Q, fun a w h => h, fun fuel a w h => by simpa using h⟩
  | n + 1, ts, Q, hn, hl, ho => by
    have hne : ts ≠ [] := fun e => by rw [e] at hn; cases hn
    obtain ⟨ts', o, rfl⟩ : ∃ ts' o, ts = ts' ++ [o] := ⟨_, _, (List.dropLast_concat_getLast hne).symm⟩
    have hlen : ts'.length = n := by simpa using hn
    have hfull : l ++ (ts' ++ [o]).take (ts'.length + 1) = l ++ (ts' ++ [o]) := by rw [List.take_of_length_le (by simp)]
    have hlast := lastIn_spec (hl ts'.length (by simp))
    rw [hfull] at hlast
    have hor := ho (ts'.length + 1) (by simp)
    rw [hfull] at hor
    have htk : ∀ i, i ≤ ts'.length → (ts' ++ [o]).take i = ts'.take i := fun i hi => by rw [List.take_append_of_le_length hi]
    have hpop : (l ++ (ts' ++ [o])).toArray.pop = (l ++ ts').toArray := by
      rw [← List.append_assoc]
      simp
    obtain ⟨Qh, h1, h2⟩ := tail_upW l n ts' (onNormal (fun a' w' => Go.wpOp P (l ++ (ts' ++ [o])).toArray Q (l.length + ts'.length) (fun a2 w2 => Q .normal a2 w2) a' w') Q) hlen
      (fun i hi => by have := hl i (by simp; omega); rwa [htk (i + 1) (by omega)] at this) (fun i hi => by have := ho i (by simp; omega); rwa [htk i hi] at this)
    refine ⟨Qh, fun a w h => h1 a w ?_, fun fuel a w h => ?_⟩
    · have := wpList_pop hlast (o := o) (by simp) ts' (fun x hx g b hg => by
        obtain ⟨k, hk, rfl⟩ := List.getElem_of_mem hx
        exact (hlast.deps (l.length + k) ts'[k] (by omega) (by
          rw [List.getElem?_toArray, List.getElem?_append_right (by omega), List.getElem?_append_left (by omega)]
          simp [hk])).2 g b hg) a w h
      rwa [hpop] at this
    · have h3 := h2 fuel a w h
      have h4 := lw_anyW hlast hor (fuel + ts'.length) (Array.replicate (l ++ (ts' ++ [o])).length false) a w (by simp) (fun j oj _ hl => by
        simp [Array.getD_eq_getD_getElem?, Array.getElem?_replicate] at hl
        split at hl <;> simp at hl) (by simp) (by
          rw [hpop]
          have e : (Array.replicate (l ++ (ts' ++ [o])).length false).pop = Array.replicate (l ++ ts').length false := by
            apply Array.ext_getElem?
            intro k
            simp [Array.getElem?_pop, Array.getElem?_replicate]
          rw [e]
          exact h3)
      rw [List.length_append, List.length_singleton, ← Nat.add_assoc]
      exact h4
theorem wp_region_flock_tailW {id : Nat} {ls : List Oper} {a : Act} {w : World} (n : Nat) (pr : Nat → Option Hv) (hm : P.follows .mixedOrders = true)
    (hl : ((List.range (ls.length - n)).all fun i => lastIn (ls.take (n + (i + 1))).toArray (n + i) && forward (ls.take (n + (i + 1))).toArray) = true) (hn : decide (n ≤ ls.length) = true) (ho : orderly (ls.take n).toArray = true)
    (hf : flock P (ls.take n).toArray w.drew pr (fun a' w' => wpList P ls.toArray Q (ls.drop n) a' w') 0 [] (ls.take n) a) : (Code.region id ls.toArray true).wp P Q a w := by
  have hn := of_decide_eq_true hn
  rw [List.all_eq_true] at hl
  have hln : (ls.take n).length = n := by rw [List.length_take]; omega
  have htk : ∀ i, ls.take n ++ (ls.drop n).take i = ls.take (n + i) := fun i => by rw [List.take_add]
  have htd : ls.take n ++ ls.drop n = ls := List.take_append_drop n ls
  refine wp_region_any hm ?_
  obtain ⟨Qh, h1, h2⟩ := tail_upW (P := P) (ls.take n) _ (ls.drop n) Q rfl (fun i hi => by
      have := hl i (List.mem_range.2 (by simpa using hi))
      rw [Bool.and_eq_true] at this
      rw [htk, hln]
      exact this.1) (fun i hi => by
      cases i with
      | zero => exact forward_of (by simpa using ho)
      | succ i =>
        have := hl i (List.mem_range.2 (by simp at hi; omega))
        rw [Bool.and_eq_true] at this
        rw [htk]
        exact this.2)
  rw [htd] at h1 h2
  have H := flock_start (Q := Qh) (l := ls.take n) (a := a) (w := w.drew) (pr := pr) (flock_mono h1 _ 0 [] a hf) ho
  have h3 := h2 (ls.take n).length a w.drew (by
    simp only [List.size_toArray] at H
    exact H)
  have e : (ls.take n).length + (ls.drop n).length = ls.toArray.size := by simp; omega
  rw [e] at h3
  exact h3
end
end Go.Proofs.YtpbflgemhcaooaaDoor
