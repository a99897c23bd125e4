import Derived.Test.YtpbflgemhcaooaaDoorPt40
import Derived.Test.YtpbflgemhcaooaaDoorProg
import Derived.Test.YtpbflgemhcaooaaDoorPt19
import Derived.Test.YtpbflgemhcaooaaDoorRows
/- What is given, from the form's reading to plain data, with the bulk of what is read. -/
namespace Go.Proofs.YtpbflgemhcaooaaDoor
open Go.RowKit Go.ChangeShapes Go.WideShapes Go.Deep
set_option linter.unusedVariables false
def I64 (n : Int) : Prop := -9223372036854775808 ≤ n ∧ n ≤ 9223372036854775807
theorem Tryd.cells3 : Tryd.prog.cellsOf 3 = 1 := by kernel_rfl
theorem Tryd.cells46 : Tryd.prog.cellsOf 46 = 1 := by kernel_rfl
theorem Tryd.cells47 : Tryd.prog.cellsOf 47 = 1 := by kernel_rfl
theorem Tryd.cells49 : Tryd.prog.cellsOf 49 = 2 := by kernel_rfl
theorem bulk_one {H : Type} (d : DataW H) : 1 ≤ Rows.uptoBulk d := by
  cases d with
  | lit l => cases l <;> simp [Rows.uptoBulk]
  | nil => simp [Rows.uptoBulk]
  | ptr d => simp [Rows.uptoBulk]
  | slice elems spare => simp [Rows.uptoBulk]
  | agg parts => simp [Rows.uptoBulk]
  | iface t d => simp [Rows.uptoBulk]
  | map entries => simp [Rows.uptoBulk]
  | held h => simp [Rows.uptoBulk]
theorem sum_le_bulk {H α : Type} (μ : α → Nat) : ∀ (l : List α) (D : Nat → DataW H), (∀ (i : Nat) a, l[i]? = some a → μ a ≤ Rows.uptoBulk (D i)) → (l.map μ).sum ≤ Rows.uptoBulkAll ((List.range l.length).map D)
  | [], _, _ => by simp
  | a :: r, D, h => by
    have h0 := h 0 a rfl
    have ih := sum_le_bulk μ r (fun i => D (i + 1)) (fun i b hb => h (i + 1) b (by simpa using hb))
    rw [List.length_cons, List.range_succ_eq_map, List.map_cons, List.map_cons, List.sum_cons, List.map_map]
    simp only [Rows.uptoBulkAll]
    have e : (D ∘ Nat.succ) = fun i => D (i + 1) := rfl
    rw [e]
    omega
theorem sum_const {α : Type} : ∀ l : List α, (l.map fun _ => 1).sum = l.length
  | [] => rfl
  | _ :: r => by rw [List.map_cons, List.sum_cons, sum_const r, List.length_cons]; omega
section
variable {H : Type} {enc : TypeId × Value → H} {P : Program} {w : World} {base : Nat} {spare : Nat → Bool} {held : Bool}
theorem trod_i64 {t : TypeId} (ht : P.underlying t = some (.int .i64)) {fuel : Nat} {cs : List Value} {x : DataW H × List MemPlace} (h : DataW.trod enc P w base spare held fuel t cs = some x) : ∃ n, cs = [.int .i64 n] ∧ I64 n := by
  obtain ⟨n, rfl, _, hw⟩ := DataW.trod_int ht h
  exact ⟨n, rfl, bounds_i64 hw⟩
theorem open_SLb {α : Type} (R : List Value → α → Prop) (μ : α → Nat) {size : Nat} {t e : TypeId} {fuel : Nat} {cs : List Value} {x : DataW H × List MemPlace} (hs : 0 < size) (hC : P.cellsOf e = size)
    (hel : ∀ fuel cs x, DataW.trod enc P w base spare held fuel e cs = some x → ∃ a, R cs a ∧ μ a ≤ Rows.uptoBulk x.1) (ht : P.underlying t = some (.slice e)) (h : DataW.trod enc P w base spare held fuel t cs = some x) :
    ∃ (v : Value) (css : List (List Value)) (l : List α), cs = [v] ∧ SL w w.heap.size size v l.length (List.flatten css) ∧ css.length = l.length ∧ (∀ c ∈ css, c.length = size) ∧ (∀ (i : Nat) c a, css[i]? = some c → l[i]? = some a → R c a) ∧
      (l.map μ).sum + 1 ≤ Rows.uptoBulk x.1 := by
  rcases open_slice ht h with ⟨rfl, rfl⟩ | ⟨a, len, cap, m, n, D, Pl, rfl, _, hl, hm, hmm, rfl, hi⟩
  · exact ⟨_, [], [], rfl, SL.nil_ _ _ _, rfl, (by simp), (by simp), (by simp [Rows.uptoBulk])⟩
  · have hle : len ≤ m := by rw [hmm]; split <;> omega
    obtain ⟨ps, hpl, hp⟩ := pick_list (fun i (p : List Value × α) => w.cells? base (a.add (i * size)) size = some p.1 ∧ R p.1 p.2 ∧ μ p.2 ≤ Rows.uptoBulk (D i)) len (fun i hlt => by
      obtain ⟨cs', hc, htr⟩ := hi i (by omega)
      obtain ⟨b, hb, hμ⟩ := hel _ _ _ htr
      exact ⟨(cs', b), by rw [hC] at hc; exact hc, hb, hμ⟩)
    have hlen : ∀ c ∈ ps.map (·.1), c.length = size := by
      intro c hc
      obtain ⟨p, hpm, rfl⟩ := List.mem_map.1 hc
      obtain ⟨i, hilt, hie⟩ := List.getElem_of_mem hpm
      have := (hp i p (by rw [List.getElem?_eq_getElem hilt, hie])).1
      obtain ⟨_, hlc, _⟩ := World.cells?_some this
      exact hlc
    refine ⟨_, ps.map (·.1), ps.map (·.2), rfl, ?_, by simp, hlen, ?_, ?_⟩
    · refine ⟨by rw [flatten_len _ hlen]; simp, some a, cap, by simp [hpl], by simpa [hpl] using hl, hm, (fun h => by cases h), fun hn => ?_⟩
      have h0 : 0 < len := by simpa [hpl] using hn
      obtain ⟨b, off, spot⟩ := a
      have hcell : ∀ i j, i < len → j < size → w.cell? ((⟨b, off, spot⟩ : Addr).add (i * size + j)) = (ps.map (·.1)).flatten[i * size + j]? := by
        intro i j hil hj
        have hilt : i < ps.length := by omega
        have hpi := hp i (ps[i]) (List.getElem?_eq_getElem hilt)
        obtain ⟨_, _, hat⟩ := World.cells?_some hpi.1
        have := hat j hj
        rw [← Go.Deep.add_add]
        rw [this, flatten_at _ hlen i j hj]
        simp [hilt]
      have hfl : (ps.map (·.1)).flatten.length = len * size := by rw [flatten_len _ hlen]; simp [hpl]
      have c0 := hcell 0 0 h0 hs
      have hpos : 0 < (ps.map (·.1)).flatten.length := by rw [hfl]; exact Nat.mul_pos h0 hs
      simp only [Nat.zero_mul, Nat.zero_add] at c0
      rw [List.getElem?_eq_getElem hpos] at c0
      have hspot : spot = none := by simpa [Addr.add] using World.cell?_spot c0
      subst hspot
      have hlt := World.block_lt_of_cell? w _ c0
      refine ⟨b, off, rfl, by simpa [Addr.add] using hlt, fun j u hu => ?_⟩
      have hjl : j < len * size := by
        rcases Nat.lt_or_ge j (len * size) with h1 | h1
        · exact h1
        · rw [List.getElem?_eq_none (by omega)] at hu; cases hu
      have hdm : j = j / size * size + j % size := by rw [Nat.mul_comm]; exact (Nat.div_add_mod j size).symm
      have h1 : j / size < len := Nat.div_lt_of_lt_mul (by rw [Nat.mul_comm]; exact hjl)
      have := hcell (j / size) (j % size) h1 (Nat.mod_lt _ hs)
      rw [← hdm, hu] at this
      rw [plain_add] at this
      exact this
    · intro i c b hc hb
      simp only [List.getElem?_map, Option.map_eq_some_iff] at hc hb
      obtain ⟨p, hpi, rfl⟩ := hc
      obtain ⟨q, hqi, rfl⟩ := hb
      rw [hpi] at hqi
      cases hqi
      exact (hp i p hpi).2.1
    · have hsum := sum_le_bulk μ (ps.map (·.2)) D (fun i b hb => by
        simp only [List.getElem?_map, Option.map_eq_some_iff] at hb
        obtain ⟨q, hqi, rfl⟩ := hb
        exact (hp i q hqi).2.2)
      rw [List.length_map, hpl] at hsum
      simp only [Rows.uptoBulk]
      omega
theorem open_cellsb {α : Type} (cells : α → List Value) (wf : α → Prop) (μ : α → Nat) {size : Nat} {t e : TypeId} {fuel : Nat} {cs : List Value} {x : DataW H × List MemPlace} (hs : 0 < size) (hC : P.cellsOf e = size)
    (hel : ∀ fuel cs x, DataW.trod enc P w base spare held fuel e cs = some x → ∃ a, (cs = cells a ∧ wf a) ∧ μ a ≤ Rows.uptoBulk x.1) (ht : P.underlying t = some (.slice e)) (h : DataW.trod enc P w base spare held fuel t cs = some x) :
    ∃ (v : Value) (l : List α), cs = [v] ∧ SL w w.heap.size size v l.length (l.flatMap cells) ∧ (∀ a ∈ l, wf a) ∧ (l.map μ).sum + 1 ≤ Rows.uptoBulk x.1 := by
  obtain ⟨v, css, l, rfl, hsl, hlen, _, hr, hb⟩ := open_SLb (fun cs a => cs = cells a ∧ wf a) μ hs hC hel ht h
  have e : css = l.map cells := by
    apply List.ext_getElem?
    intro i
    by_cases hi : i < l.length
    · have h1 := hr i css[i] l[i] (List.getElem?_eq_getElem (by omega)) (List.getElem?_eq_getElem hi)
      rw [List.getElem?_eq_getElem (by omega), List.getElem?_eq_getElem (by simpa using hi), h1.1]
      simp
    · rw [List.getElem?_eq_none (by omega), List.getElem?_eq_none (by simpa using hi)]
  refine ⟨v, l, rfl, by rw [e] at hsl; rw [List.flatMap_def]; exact hsl, fun a ha => ?_, hb⟩
  obtain ⟨i, hi, rfl⟩ := List.getElem_of_mem ha
  exact (hr i css[i] l[i] (List.getElem?_eq_getElem (by omega)) (List.getElem?_eq_getElem hi)).2
/-- a struct, field by field, with what is read of it -/
theorem trod_parts {t : TypeId} {fs : Array Field} {fuel : Nat} {cs : List Value} {x : DataW H × List MemPlace} (ht : P.underlying t = some (.struct fs)) (h : DataW.trod enc P w base spare held fuel t cs = some x) :
    cs.length = P.cellsOf t ∧ ∃ (n : Nat) (xs : List (DataW H × List MemPlace)), xs.length = fs.size ∧ x.1 = .agg (xs.map (·.1)) ∧ ∀ (j : Nat) (u : TypeId) (o : Nat), (fs.toList.map fun f => (f.type, f.offset))[j]? = some (u, o) → DataW.trod enc P w base spare held n u ((cs.drop o).take (P.cellsOf u)) = xs[j]? := by
  obtain ⟨xs, n, _, rfl, hl, hxl, hf⟩ := DataW.trod_struct ht h
  refine ⟨hl, n, xs, hxl, rfl, fun j u o hj => ?_⟩
  rw [List.getElem?_map, Option.map_eq_some_iff] at hj
  obtain ⟨f, hj, hfe⟩ := hj
  simp only [Prod.mk.injEq] at hfe
  obtain ⟨rfl, rfl⟩ := hfe
  have hj : fs[j]? = some f := by simpa using hj
  exact hf j f hj
end
theorem list2 {α : Type} {l : List α} (h : l.length = 2) : ∃ c0 c1, l = [c0, c1] := by
  match l, h with
  | [c0, c1], _ => exact ⟨_, _, rfl⟩
section
variable {H : Type} {enc : TypeId × Value → H} {w : World} {base : Nat} {spare : Nat → Bool} {held : Bool} {fuel : Nat} {cs : List Value} {x : DataW H × List MemPlace}
theorem open_ints (h : DataW.trod enc Tryd.prog w base spare held fuel 46 cs = some x) :
    ∃ v l, cs = [v] ∧ RInts w w.heap.size v l ∧ (∀ n ∈ l, I64 n) ∧ l.length + 1 ≤ Rows.uptoBulk x.1 := by
  obtain ⟨v, l, rfl, hsl, hw, hb⟩ := open_cellsb (fun n => [Value.int .i64 n]) I64 (fun _ => 1) (by decide) Tryd.cells3 (fun _ _ x h => (trod_i64 Tryd.underlying3 h).elim fun n hn => ⟨n, hn, bulk_one _⟩) Tryd.underlying46 h
  rw [sum_const] at hb
  exact ⟨v, l, rfl, by unfold RInts; rw [List.map_eq_flatMap]; exact hsl, hw, hb⟩
theorem open_lists (h : DataW.trod enc Tryd.prog w base spare held fuel 47 cs = some x) :
    ∃ v l, cs = [v] ∧ RLists w w.heap.size v l ∧ (∀ a ∈ l, ∀ n ∈ a, I64 n) ∧ l.length + l.flatten.length + 1 ≤ Rows.uptoBulk x.1 := by
  obtain ⟨v, css, l, rfl, hsl, hlen, hone, hr, hb⟩ := open_SLb (fun cs a => ∃ u, cs = [u] ∧ RInts w w.heap.size u a ∧ (∀ n ∈ a, I64 n)) (fun a : List Int => a.length + 1) (by decide) Tryd.cells46
    (fun _ _ x h => by obtain ⟨u, a, h1, h2, h3, h4⟩ := open_ints h; exact ⟨a, ⟨u, h1, h2, h3⟩, h4⟩) Tryd.underlying47 h
  have hsum : ∀ l : List (List Int), (l.map fun a => a.length + 1).sum = l.length + l.flatten.length := fun l => by
    induction l with
    | nil => rfl
    | cons a r ih => simp only [List.map_cons, List.sum_cons, ih, List.length_cons, List.flatten_cons, List.length_append]; omega
  rw [hsum] at hb
  have hfl : css.flatten.length = l.length := by rw [flatten_len _ hone, hlen]; omega
  refine ⟨v, l, rfl, ⟨css.flatten, hfl, hsl, fun k u a hu ha => ?_⟩, fun a ha => ?_, hb⟩
  · have hk : k < css.length := by rw [hlen]; exact (List.getElem?_eq_some_iff.1 ha).1
    obtain ⟨u', e, hi, _⟩ := hr k css[k] a (List.getElem?_eq_getElem hk) ha
    have := flatten_at css hone k 0 (by decide)
    rw [Nat.mul_one, Nat.add_zero, hu, List.getElem?_eq_getElem hk, e] at this
    simp at this
    subst this
    exact hi
  · obtain ⟨k, hk, rfl⟩ := List.getElem_of_mem ha
    obtain ⟨u', e, _, hi⟩ := hr k (css[k]'(by omega)) l[k] (List.getElem?_eq_getElem (by omega)) (List.getElem?_eq_getElem hk)
    exact hi
structure WfG (g : Ev.Given) : Prop where
  words : ∀ n ∈ g.words, I64 n
  arrays : ∀ a ∈ g.arrays, ∀ n ∈ a, I64 n
theorem open_given (h : DataW.trod enc Tryd.prog w base spare held fuel 49 cs = some x) :
    ∃ vw va g, cs = [vw, va] ∧ RInts w w.heap.size vw g.words ∧ RLists w w.heap.size va g.arrays ∧ WfG g ∧ g.words.length + g.arrays.length + g.arrays.flatten.length + 1 ≤ Rows.uptoBulk x.1 := by
  obtain ⟨hl, n, xs, hxl, hx, hf⟩ := trod_parts Tryd.underlying49 h
  rw [Tryd.cells49] at hl
  obtain ⟨c0, c1, rfl⟩ := list2 hl
  obtain ⟨x0, x1, rfl⟩ := list2 hxl
  have h0 := hf 0 46 0 rfl
  have h1 := hf 1 47 1 rfl
  rw [Tryd.cells46] at h0
  rw [Tryd.cells47] at h1
  obtain ⟨vw, lw, e0, r0, w0, b0⟩ := open_ints h0
  obtain ⟨va, la, e1, r1, w1, b1⟩ := open_lists h1
  simp at e0 e1
  subst e0 e1
  refine ⟨_, _, ⟨lw, la⟩, rfl, r0, r1, ⟨w0, w1⟩, ?_⟩
  rw [hx]
  simp only [List.map_cons, List.map_nil, Rows.uptoBulk, Rows.uptoBulkAll]
  omega
end
theorem arg_struct {P : Program} {w : World} {base : Nat} {r : Reach} {t : TypeId} {v : Value} {fs : Array Field} (ht : P.underlying t = some (.struct fs)) (hv : Value.okWide P w r base t v) {l : List Value} (h : v.cells.toList = l) : v = .agg l.toArray := by
  obtain ⟨cs, rfl, _⟩ := okWide_struct ht hv
  simp only [Value.cells] at h
  subst h
  simp
end Go.Proofs.YtpbflgemhcaooaaDoor
