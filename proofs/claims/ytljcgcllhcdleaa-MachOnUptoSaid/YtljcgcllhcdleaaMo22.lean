import Derived.ProofKit
import Derived.OpenShut
import Derived.Deep.Slices
import Derived.Deep.Fields
import Derived.ChangeSame
import Derived.Test.YtljcgcllhcdleaaMo1
import Derived.Test.YtljcgcllhcdleaaProg
import Derived.Test.YtljcgcllhcdleaaMo2
import Derived.Test.YtljcgcllhcdleaaRows
/- From the form's reading of an argument to plain data: slices of whatever elements. -/
namespace Go.Proofs.Ytljcgcllhcdleaa
open Go.RowKit Go.ChangeShapes Go.WideShapes Go.Deep
section
variable {H : Type} {enc : TypeId × Value → H} {P : Program} {w : World} {base : Nat} {spare : Nat → Bool} {held : Bool}

theorem plain_add (b off j : Nat) : (⟨b, off, none⟩ : Addr).add j = ⟨b, off + j, none⟩ := by
  unfold Addr.add
  by_cases h : j = 0
  · subst h; rfl
  · rw [if_neg h]

theorem pick_list {α : Type} (R : Nat → α → Prop) : ∀ n, (∀ i, i < n → ∃ a, R i a) → ∃ l : List α, l.length = n ∧ ∀ i a, l[i]? = some a → R i a
  | 0, _ => ⟨[], rfl, fun i a h => by simp at h⟩
  | n + 1, h => by
    obtain ⟨l, hl, hr⟩ := pick_list R n (fun i hi => h i (by omega))
    obtain ⟨a, ha⟩ := h n (by omega)
    refine ⟨l ++ [a], by simp [hl], fun i b hb => ?_⟩
    by_cases hi : i < n
    · rw [List.getElem?_append_left (by omega)] at hb
      exact hr i b hb
    · have hlt : i < (l ++ [a]).length := by
        rcases Nat.lt_or_ge i (l ++ [a]).length with h1 | h1
        · exact h1
        · simp [List.getElem?_eq_none h1] at hb
      have : i = n := by simp [hl] at hlt; omega
      subst this
      rw [List.getElem?_append_right (by omega)] at hb
      simp [hl] at hb
      subst hb
      exact ha

theorem flatten_at {α : Type} {size : Nat} : ∀ (css : List (List α)), (∀ c ∈ css, c.length = size) → ∀ k j, j < size → css.flatten[k * size + j]? = (css[k]?).bind (fun c => c[j]?)
  | [], _, k, j, _ => by simp
  | c :: r, h, 0, j, hj => by
    have hc : c.length = size := h c (by simp)
    simp only [List.flatten_cons, Nat.zero_mul, Nat.zero_add]
    rw [List.getElem?_append_left (by omega)]
    simp
  | c :: r, h, k + 1, j, hj => by
    have hc : c.length = size := h c (by simp)
    have ih := flatten_at r (fun c' h' => h c' (by simp [h'])) k j hj
    simp only [List.flatten_cons]
    rw [List.getElem?_append_right (by rw [hc, Nat.succ_mul]; omega)]
    have : (k + 1) * size + j - c.length = k * size + j := by rw [hc, Nat.succ_mul]; omega
    rw [this, ih]
    simp

theorem flatten_len {α : Type} {size : Nat} : ∀ (css : List (List α)), (∀ c ∈ css, c.length = size) → css.flatten.length = css.length * size
  | [], _ => by simp
  | c :: r, h => by
    have hc : c.length = size := h c (by simp)
    have ih := flatten_len r (fun c' h' => h c' (by simp [h']))
    simp [List.flatten_cons, ih, hc, Nat.succ_mul]
    omega

theorem open_SL {α : Type} (R : List Value → α → Prop) {size : Nat} {t e : TypeId} {fuel : Nat} {cs : List Value} {x : DataW H × List MemPlace} (hs : 0 < size) (hC : P.cellsOf e = size)
    (hel : ∀ fuel cs x, DataW.trod enc P w base spare held fuel e cs = some x → ∃ a, R cs a) (ht : P.underlying t = some (.slice e)) (h : DataW.trod enc P w base spare held fuel t cs = some x) :
    ∃ (v : Value) (css : List (List Value)) (l : List α), cs = [v] ∧ SL w w.heap.size size v l.length (List.flatten css) ∧ css.length = l.length ∧ (∀ c ∈ css, c.length = size) ∧ ∀ (i : Nat) c a, css[i]? = some c → l[i]? = some a → R c a := by
  rcases open_slice ht h with ⟨rfl, _⟩ | ⟨a, len, cap, m, n, D, Pl, rfl, _, hl, hm, hmm, _, hi⟩
  · exact ⟨_, [], [], rfl, SL.nil_ _ _ _, rfl, (by simp), (by simp)⟩
  · have hle : len ≤ m := by rw [hmm]; split <;> omega
    obtain ⟨ps, hpl, hp⟩ := pick_list (fun i (p : List Value × α) => w.cells? base (a.add (i * size)) size = some p.1 ∧ R p.1 p.2) len (fun i hlt => by
      obtain ⟨cs', hc, htr⟩ := hi i (by omega)
      obtain ⟨b, hb⟩ := hel _ _ _ htr
      exact ⟨(cs', b), by rw [hC] at hc; exact hc, hb⟩)
    have hlen : ∀ c ∈ ps.map (·.1), c.length = size := by
      intro c hc
      obtain ⟨p, hpm, rfl⟩ := List.mem_map.1 hc
      obtain ⟨i, hilt, hie⟩ := List.getElem_of_mem hpm
      have := (hp i p (by rw [List.getElem?_eq_getElem hilt, hie])).1
      obtain ⟨_, hlc, _⟩ := World.cells?_some this
      exact hlc
    refine ⟨_, ps.map (·.1), ps.map (·.2), rfl, ?_, by simp, hlen, ?_⟩
    · refine ⟨by rw [flatten_len _ hlen]; simp, some a, cap, by simp [hpl], by simpa [hpl] using hl, hm, (fun h => by cases h), fun hn => ?_⟩
      have h0 : 0 < len := by simpa [hpl] using hn
      obtain ⟨b, off, spot⟩ := a
      have hcell : ∀ i j, i < len → j < size → w.cell? ((⟨b, off, spot⟩ : Addr).add (i * size + j)) = (ps.map (·.1)).flatten[i * size + j]? := by
        intro i j hil hj
        have hilt : i < ps.length := by omega
        have hpi := hp i (ps[i]) (List.getElem?_eq_getElem hilt)
        obtain ⟨_, _, hat⟩ := World.cells?_some hpi.1
        have := hat j hj
        rw [← Go.Deep.add_add] 
        rw [this, flatten_at _ hlen i j hj]
        simp [hilt]
      have hfl : (ps.map (·.1)).flatten.length = len * size := by rw [flatten_len _ hlen]; simp [hpl]
      have c0 := hcell 0 0 h0 hs
      have hpos : 0 < (ps.map (·.1)).flatten.length := by rw [hfl]; exact Nat.mul_pos h0 hs
      simp only [Nat.zero_mul, Nat.zero_add] at c0
      rw [List.getElem?_eq_getElem hpos] at c0
      have hspot : spot = none := by simpa [Addr.add] using World.cell?_spot c0
      subst hspot
      have hlt := World.block_lt_of_cell? w _ c0
      refine ⟨b, off, rfl, by simpa [Addr.add] using hlt, fun j u hu => ?_⟩
      have hjl : j < len * size := by
        rcases Nat.lt_or_ge j (len * size) with h1 | h1
        · exact h1
        · rw [List.getElem?_eq_none (by omega)] at hu; cases hu
      have hdm : j = j / size * size + j % size := by rw [Nat.mul_comm]; exact (Nat.div_add_mod j size).symm
      have h1 : j / size < len := Nat.div_lt_of_lt_mul (by rw [Nat.mul_comm]; exact hjl)
      have := hcell (j / size) (j % size) h1 (Nat.mod_lt _ hs)
      rw [← hdm, hu] at this
      rw [plain_add] at this
      exact this
    · intro i c b hc hb
      simp only [List.getElem?_map, Option.map_eq_some_iff] at hc hb
      obtain ⟨p, hpi, rfl⟩ := hc
      obtain ⟨q, hqi, rfl⟩ := hb
      rw [hpi] at hqi
      cases hqi
      exact (hp i p hpi).2
end
end Go.Proofs.Ytljcgcllhcdleaa
/- Two closed facts of the program. -/
namespace Go.Proofs.Ytljcgcllhcdleaa
open Go
theorem Try.own : ownKnob Try.prog.godebug = none := by kernel_rfl
theorem Try.laidOut : laidOutB Try.prog = true := by kernel_rfl
end Go.Proofs.Ytljcgcllhcdleaa
/- The types of this program, from the form's reading to plain data. -/
namespace Go.Proofs.Ytljcgcllhcdleaa
open Go.RowKit Go.ChangeShapes Go.WideShapes Go.Deep
def I64 (n : Int) : Prop := -9223372036854775808 ≤ n ∧ n ≤ 9223372036854775807
def WfI (i : Ev.Instr) : Prop := I64 i.op ∧ I64 i.d ∧ I64 i.a ∧ I64 i.b ∧ I64 i.c ∧ I64 i.imm
theorem Try.cells3 : Try.prog.cellsOf 3 = 1 := by kernel_rfl
theorem Try.cells5 : Try.prog.cellsOf 5 = 1 := by kernel_rfl
theorem Try.cells39 : Try.prog.cellsOf 39 = 6 := by kernel_rfl
theorem list6 {α : Type} {l : List α} (h : l.length = 6) : ∃ c0 c1 c2 c3 c4 c5, l = [c0, c1, c2, c3, c4, c5] := by
  match l, h with
  | [c0, c1, c2, c3, c4, c5], _ => exact ⟨_, _, _, _, _, _, rfl⟩
section
variable {H : Type} {enc : TypeId × Value → H} {P : Program} {w : World} {base : Nat} {spare : Nat → Bool} {held : Bool}

/-- a struct, field by field -/
theorem trod_fields {t : TypeId} {fs : Array Field} {fuel : Nat} {cs : List Value} {x : DataW H × List MemPlace} (ht : P.underlying t = some (.struct fs)) (h : DataW.trod enc P w base spare held fuel t cs = some x) :
    cs.length = P.cellsOf t ∧ ∃ n, ∀ (j : Nat) (u : TypeId) (o : Nat), (fs.toList.map fun f => (f.type, f.offset))[j]? = some (u, o) → ∃ y, DataW.trod enc P w base spare held n u ((cs.drop o).take (P.cellsOf u)) = some y := by
  obtain ⟨xs, n, _, _, hl, hxl, hf⟩ := DataW.trod_struct ht h
  refine ⟨hl, n, fun j u o hj => ?_⟩
  rw [List.getElem?_map, Option.map_eq_some_iff] at hj
  obtain ⟨f, hj, hfe⟩ := hj
  simp only [Prod.mk.injEq] at hfe
  obtain ⟨rfl, rfl⟩ := hfe
  have hj : fs[j]? = some f := by simpa using hj
  have hjl : j < fs.size := (Array.getElem?_eq_some_iff.1 hj).1
  exact ⟨xs[j], by rw [hf j f hj, List.getElem?_eq_getElem]⟩

theorem trod_i64 {t : TypeId} (ht : P.underlying t = some (.int .i64)) {fuel : Nat} {cs : List Value} {x : DataW H × List MemPlace} (h : DataW.trod enc P w base spare held fuel t cs = some x) : ∃ n, cs = [.int .i64 n] ∧ I64 n := by
  obtain ⟨n, rfl, _, hw⟩ := DataW.trod_int ht h
  exact ⟨n, rfl, bounds_i64 hw⟩
theorem trod_u8 {t : TypeId} (ht : P.underlying t = some (.int .u8)) {fuel : Nat} {cs : List Value} {x : DataW H × List MemPlace} (h : DataW.trod enc P w base spare held fuel t cs = some x) : ∃ n, cs = [.int .u8 n] ∧ 0 ≤ n ∧ n ≤ 255 := by
  obtain ⟨n, rfl, _, hw⟩ := DataW.trod_int ht h
  exact ⟨n, rfl, bounds_u8 hw⟩

theorem trod_instr {fuel : Nat} {cs : List Value} {x : DataW H × List MemPlace} (h : DataW.trod enc Try.prog w base spare held fuel 39 cs = some x) : ∃ i, cs = cellsI i ∧ WfI i := by
  obtain ⟨hl, n, hf⟩ := trod_fields Try.underlying39 h
  rw [Try.cells39] at hl
  obtain ⟨c0, c1, c2, c3, c4, c5, rfl⟩ := list6 hl
  obtain ⟨y0, h0⟩ := hf 0 3 0 rfl
  obtain ⟨y1, h1⟩ := hf 1 3 1 rfl
  obtain ⟨y2, h2⟩ := hf 2 3 2 rfl
  obtain ⟨y3, h3⟩ := hf 3 3 3 rfl
  obtain ⟨y4, h4⟩ := hf 4 3 4 rfl
  obtain ⟨y5, h5⟩ := hf 5 3 5 rfl
  rw [Try.cells3] at h0 h1 h2 h3 h4 h5
  obtain ⟨n0, e0, w0⟩ := trod_i64 Try.underlying3 h0
  obtain ⟨n1, e1, w1⟩ := trod_i64 Try.underlying3 h1
  obtain ⟨n2, e2, w2⟩ := trod_i64 Try.underlying3 h2
  obtain ⟨n3, e3, w3⟩ := trod_i64 Try.underlying3 h3
  obtain ⟨n4, e4, w4⟩ := trod_i64 Try.underlying3 h4
  obtain ⟨n5, e5, w5⟩ := trod_i64 Try.underlying3 h5
  simp at e0 e1 e2 e3 e4 e5
  subst e0 e1 e2 e3 e4 e5
  exact ⟨⟨n0, n1, n2, n3, n4, n5⟩, rfl, w0, w1, w2, w3, w4, w5⟩

/-- a slice whose elements are told by their cells -/
theorem open_cells {α : Type} (cells : α → List Value) (wf : α → Prop) {size : Nat} {t e : TypeId} {fuel : Nat} {cs : List Value} {x : DataW H × List MemPlace} (hs : 0 < size) (hC : P.cellsOf e = size)
    (hel : ∀ fuel cs x, DataW.trod enc P w base spare held fuel e cs = some x → ∃ a, cs = cells a ∧ wf a) (ht : P.underlying t = some (.slice e)) (h : DataW.trod enc P w base spare held fuel t cs = some x) :
    ∃ (v : Value) (l : List α), cs = [v] ∧ SL w w.heap.size size v l.length (l.flatMap cells) ∧ ∀ a ∈ l, wf a := by
  obtain ⟨v, css, l, rfl, hsl, hlen, _, hr⟩ := open_SL (fun cs a => cs = cells a ∧ wf a) hs hC hel ht h
  have e : css = l.map cells := by
    apply List.ext_getElem?
    intro i
    by_cases hi : i < l.length
    · have h1 := hr i css[i] l[i] (List.getElem?_eq_getElem (by omega)) (List.getElem?_eq_getElem hi)
      rw [List.getElem?_eq_getElem (by omega), List.getElem?_eq_getElem (by simpa using hi), h1.1]
      simp
    · rw [List.getElem?_eq_none (by omega), List.getElem?_eq_none (by simpa using hi)]
  refine ⟨v, l, rfl, by rw [e] at hsl; rw [List.flatMap_def]; exact hsl, fun a ha => ?_⟩
  obtain ⟨i, hi, rfl⟩ := List.getElem_of_mem ha
  exact (hr i css[i] l[i] (List.getElem?_eq_getElem (by omega)) (List.getElem?_eq_getElem hi)).2

theorem open_bytes {fuel : Nat} {cs : List Value} {x : DataW H × List MemPlace} (h : DataW.trod enc Try.prog w base spare held fuel 74 cs = some x) :
    ∃ v l, cs = [v] ∧ RBytes w w.heap.size v l ∧ ∀ n ∈ l, 0 ≤ n ∧ n ≤ 255 := by
  obtain ⟨v, l, rfl, hsl, hw⟩ := open_cells (fun n => [Value.int .u8 n]) (fun n => 0 ≤ n ∧ n ≤ 255) (by decide) Try.cells5 (fun _ _ _ h => trod_u8 Try.underlying5 h) Try.underlying74 h
  exact ⟨v, l, rfl, by unfold RBytes; rw [List.map_eq_flatMap]; exact hsl, hw⟩
end

/-- an argument of a struct's type is its cells -/
theorem arg_struct {P : Program} {w : World} {base : Nat} {r : Reach} {t : TypeId} {v : Value} {fs : Array Field} (ht : P.underlying t = some (.struct fs)) (hv : Value.okWide P w r base t v) {l : List Value} (h : v.cells.toList = l) : v = .agg l.toArray := by
  obtain ⟨cs, rfl, _⟩ := okWide_struct ht hv
  simp only [Value.cells] at h
  subst h
  simp
/-- an argument of a slice's type is its one cell -/
theorem arg_slice {P : Program} {w : World} {base : Nat} {r : Reach} {t e : TypeId} {v : Value} (ht : P.underlying t = some (.slice e)) (hv : Value.okWide P w r base t v) {u : Value} (h : v.cells.toList = [u]) : v = u := by
  obtain ⟨a, len, cap, rfl⟩ := okWide_slice ht hv
  simpa [Value.cells] using h
end Go.Proofs.Ytljcgcllhcdleaa
/- Flat instructions, tables and what is given, from the form's reading to plain data, with the bulk of what is read. -/
namespace Go.Proofs.Ytljcgcllhcdleaa
open Go.RowKit Go.ChangeShapes Go.WideShapes Go.Deep
theorem bulk_one {H : Type} (d : DataW H) : 1 ≤ Rows.uptoBulk d := by
  cases d with
  | lit l => cases l <;> simp [Rows.uptoBulk]
  | nil => simp [Rows.uptoBulk]
  | ptr d => simp [Rows.uptoBulk]
  | slice elems spare => simp [Rows.uptoBulk]
  | agg parts => simp [Rows.uptoBulk]
  | iface t d => simp [Rows.uptoBulk]
  | map entries => simp [Rows.uptoBulk]
  | held h => simp [Rows.uptoBulk]
theorem sum_le_bulk {H α : Type} (μ : α → Nat) : ∀ (l : List α) (D : Nat → DataW H), (∀ (i : Nat) a, l[i]? = some a → μ a ≤ Rows.uptoBulk (D i)) → (l.map μ).sum ≤ Rows.uptoBulkAll ((List.range l.length).map D)
  | [], _, _ => by simp
  | a :: r, D, h => by
    have h0 := h 0 a rfl
    have ih := sum_le_bulk μ r (fun i => D (i + 1)) (fun i b hb => h (i + 1) b (by simpa using hb))
    rw [List.length_cons, List.range_succ_eq_map, List.map_cons, List.map_cons, List.sum_cons, List.map_map]
    simp only [Rows.uptoBulkAll]
    have e : (D ∘ Nat.succ) = fun i => D (i + 1) := rfl
    rw [e]
    omega
theorem sum_const {α : Type} : ∀ l : List α, (l.map fun _ => 1).sum = l.length
  | [] => rfl
  | _ :: r => by rw [List.map_cons, List.sum_cons, sum_const r, List.length_cons]; omega
section
variable {H : Type} {enc : TypeId × Value → H} {P : Program} {w : World} {base : Nat} {spare : Nat → Bool} {held : Bool}
theorem open_SLb {α : Type} (R : List Value → α → Prop) (μ : α → Nat) {size : Nat} {t e : TypeId} {fuel : Nat} {cs : List Value} {x : DataW H × List MemPlace} (hs : 0 < size) (hC : P.cellsOf e = size)
    (hel : ∀ fuel cs x, DataW.trod enc P w base spare held fuel e cs = some x → ∃ a, R cs a ∧ μ a ≤ Rows.uptoBulk x.1) (ht : P.underlying t = some (.slice e)) (h : DataW.trod enc P w base spare held fuel t cs = some x) :
    ∃ (v : Value) (css : List (List Value)) (l : List α), cs = [v] ∧ SL w w.heap.size size v l.length (List.flatten css) ∧ css.length = l.length ∧ (∀ c ∈ css, c.length = size) ∧ (∀ (i : Nat) c a, css[i]? = some c → l[i]? = some a → R c a) ∧
      (l.map μ).sum + 1 ≤ Rows.uptoBulk x.1 := by
  rcases open_slice ht h with ⟨rfl, rfl⟩ | ⟨a, len, cap, m, n, D, Pl, rfl, _, hl, hm, hmm, rfl, hi⟩
  · exact ⟨_, [], [], rfl, SL.nil_ _ _ _, rfl, (by simp), (by simp), (by simp [Rows.uptoBulk])⟩
  · have hle : len ≤ m := by rw [hmm]; split <;> omega
    obtain ⟨ps, hpl, hp⟩ := pick_list (fun i (p : List Value × α) => w.cells? base (a.add (i * size)) size = some p.1 ∧ R p.1 p.2 ∧ μ p.2 ≤ Rows.uptoBulk (D i)) len (fun i hlt => by
      obtain ⟨cs', hc, htr⟩ := hi i (by omega)
      obtain ⟨b, hb, hμ⟩ := hel _ _ _ htr
      exact ⟨(cs', b), by rw [hC] at hc; exact hc, hb, hμ⟩)
    have hlen : ∀ c ∈ ps.map (·.1), c.length = size := by
      intro c hc
      obtain ⟨p, hpm, rfl⟩ := List.mem_map.1 hc
      obtain ⟨i, hilt, hie⟩ := List.getElem_of_mem hpm
      have := (hp i p (by rw [List.getElem?_eq_getElem hilt, hie])).1
      obtain ⟨_, hlc, _⟩ := World.cells?_some this
      exact hlc
    refine ⟨_, ps.map (·.1), ps.map (·.2), rfl, ?_, by simp, hlen, ?_, ?_⟩
    · refine ⟨by rw [flatten_len _ hlen]; simp, some a, cap, by simp [hpl], by simpa [hpl] using hl, hm, (fun h => by cases h), fun hn => ?_⟩
      have h0 : 0 < len := by simpa [hpl] using hn
      obtain ⟨b, off, spot⟩ := a
      have hcell : ∀ i j, i < len → j < size → w.cell? ((⟨b, off, spot⟩ : Addr).add (i * size + j)) = (ps.map (·.1)).flatten[i * size + j]? := by
        intro i j hil hj
        have hilt : i < ps.length := by omega
        have hpi := hp i (ps[i]) (List.getElem?_eq_getElem hilt)
        obtain ⟨_, _, hat⟩ := World.cells?_some hpi.1
        have := hat j hj
        rw [← Go.Deep.add_add]
        rw [this, flatten_at _ hlen i j hj]
        simp [hilt]
      have hfl : (ps.map (·.1)).flatten.length = len * size := by rw [flatten_len _ hlen]; simp [hpl]
      have c0 := hcell 0 0 h0 hs
      have hpos : 0 < (ps.map (·.1)).flatten.length := by rw [hfl]; exact Nat.mul_pos h0 hs
      simp only [Nat.zero_mul, Nat.zero_add] at c0
      rw [List.getElem?_eq_getElem hpos] at c0
      have hspot : spot = none := by simpa [Addr.add] using World.cell?_spot c0
      subst hspot
      have hlt := World.block_lt_of_cell? w _ c0
      refine ⟨b, off, rfl, by simpa [Addr.add] using hlt, fun j u hu => ?_⟩
      have hjl : j < len * size := by
        rcases Nat.lt_or_ge j (len * size) with h1 | h1
        · exact h1
        · rw [List.getElem?_eq_none (by omega)] at hu; cases hu
      have hdm : j = j / size * size + j % size := by rw [Nat.mul_comm]; exact (Nat.div_add_mod j size).symm
      have h1 : j / size < len := Nat.div_lt_of_lt_mul (by rw [Nat.mul_comm]; exact hjl)
      have := hcell (j / size) (j % size) h1 (Nat.mod_lt _ hs)
      rw [← hdm, hu] at this
      rw [plain_add] at this
      exact this
    · intro i c b hc hb
      simp only [List.getElem?_map, Option.map_eq_some_iff] at hc hb
      obtain ⟨p, hpi, rfl⟩ := hc
      obtain ⟨q, hqi, rfl⟩ := hb
      rw [hpi] at hqi
      cases hqi
      exact (hp i p hpi).2.1
    · have hsum := sum_le_bulk μ (ps.map (·.2)) D (fun i b hb => by
        simp only [List.getElem?_map, Option.map_eq_some_iff] at hb
        obtain ⟨q, hqi, rfl⟩ := hb
        exact (hp i q hqi).2.2)
      rw [List.length_map, hpl] at hsum
      simp only [Rows.uptoBulk]
      omega
theorem open_cellsb {α : Type} (cells : α → List Value) (wf : α → Prop) (μ : α → Nat) {size : Nat} {t e : TypeId} {fuel : Nat} {cs : List Value} {x : DataW H × List MemPlace} (hs : 0 < size) (hC : P.cellsOf e = size)
    (hel : ∀ fuel cs x, DataW.trod enc P w base spare held fuel e cs = some x → ∃ a, (cs = cells a ∧ wf a) ∧ μ a ≤ Rows.uptoBulk x.1) (ht : P.underlying t = some (.slice e)) (h : DataW.trod enc P w base spare held fuel t cs = some x) :
    ∃ (v : Value) (l : List α), cs = [v] ∧ SL w w.heap.size size v l.length (l.flatMap cells) ∧ (∀ a ∈ l, wf a) ∧ (l.map μ).sum + 1 ≤ Rows.uptoBulk x.1 := by
  obtain ⟨v, css, l, rfl, hsl, hlen, _, hr, hb⟩ := open_SLb (fun cs a => cs = cells a ∧ wf a) μ hs hC hel ht h
  have e : css = l.map cells := by
    apply List.ext_getElem?
    intro i
    by_cases hi : i < l.length
    · have h1 := hr i css[i] l[i] (List.getElem?_eq_getElem (by omega)) (List.getElem?_eq_getElem hi)
      rw [List.getElem?_eq_getElem (by omega), List.getElem?_eq_getElem (by simpa using hi), h1.1]
      simp
    · rw [List.getElem?_eq_none (by omega), List.getElem?_eq_none (by simpa using hi)]
  refine ⟨v, l, rfl, by rw [e] at hsl; rw [List.flatMap_def]; exact hsl, fun a ha => ?_, hb⟩
  obtain ⟨i, hi, rfl⟩ := List.getElem_of_mem ha
  exact (hr i css[i] l[i] (List.getElem?_eq_getElem (by omega)) (List.getElem?_eq_getElem hi)).2
/-- a struct, field by field, with what is read of it -/
theorem trod_parts {t : TypeId} {fs : Array Field} {fuel : Nat} {cs : List Value} {x : DataW H × List MemPlace} (ht : P.underlying t = some (.struct fs)) (h : DataW.trod enc P w base spare held fuel t cs = some x) :
    cs.length = P.cellsOf t ∧ ∃ (n : Nat) (xs : List (DataW H × List MemPlace)), xs.length = fs.size ∧ x.1 = .agg (xs.map (·.1)) ∧ ∀ (j : Nat) (u : TypeId) (o : Nat), (fs.toList.map fun f => (f.type, f.offset))[j]? = some (u, o) → DataW.trod enc P w base spare held n u ((cs.drop o).take (P.cellsOf u)) = xs[j]? := by
  obtain ⟨xs, n, _, rfl, hl, hxl, hf⟩ := DataW.trod_struct ht h
  refine ⟨hl, n, xs, hxl, rfl, fun j u o hj => ?_⟩
  rw [List.getElem?_map, Option.map_eq_some_iff] at hj
  obtain ⟨f, hj, hfe⟩ := hj
  simp only [Prod.mk.injEq] at hfe
  obtain ⟨rfl, rfl⟩ := hfe
  have hj : fs[j]? = some f := by simpa using hj
  exact hf j f hj
end
theorem Try.cells4 : Try.prog.cellsOf 4 = 1 := by kernel_rfl
theorem Try.cells9 : Try.prog.cellsOf 9 = 1 := by kernel_rfl
theorem Try.cells42 : Try.prog.cellsOf 42 = 1 := by kernel_rfl
theorem Try.cells43 : Try.prog.cellsOf 43 = 1 := by kernel_rfl
theorem Try.cells23 : Try.prog.cellsOf 23 = 1 := by kernel_rfl
theorem Try.cells22 : Try.prog.cellsOf 22 = 1 := by kernel_rfl
theorem Try.cells24 : Try.prog.cellsOf 24 = 1 := by kernel_rfl
theorem Try.cells88 : Try.prog.cellsOf 88 = 3 := by kernel_rfl
theorem Try.cells26 : Try.prog.cellsOf 26 = 4 := by kernel_rfl
theorem Try.cells45 : Try.prog.cellsOf 45 = 2 := by kernel_rfl
theorem Try.cells29 : Try.prog.cellsOf 29 = 18 := by kernel_rfl
theorem Try.cells27 : Try.prog.cellsOf 27 = 18 := by kernel_rfl
theorem list2 {α : Type} {l : List α} (h : l.length = 2) : ∃ c0 c1, l = [c0, c1] := by
  match l, h with
  | [c0, c1], _ => exact ⟨_, _, rfl⟩
theorem list3 {α : Type} {l : List α} (h : l.length = 3) : ∃ c0 c1 c2, l = [c0, c1, c2] := by
  match l, h with
  | [c0, c1, c2], _ => exact ⟨_, _, _, rfl⟩
theorem list4 {α : Type} {l : List α} (h : l.length = 4) : ∃ c0 c1 c2 c3, l = [c0, c1, c2, c3] := by
  match l, h with
  | [c0, c1, c2, c3], _ => exact ⟨_, _, _, _, rfl⟩
section
variable {H : Type} {enc : TypeId × Value → H} {w : World} {base : Nat} {spare : Nat → Bool} {held : Bool} {fuel : Nat} {cs : List Value} {x : DataW H × List MemPlace}
theorem open_ints (h : DataW.trod enc Try.prog w base spare held fuel 42 cs = some x) :
    ∃ v l, cs = [v] ∧ RInts w w.heap.size v l ∧ (∀ n ∈ l, I64 n) ∧ l.length + 1 ≤ Rows.uptoBulk x.1 := by
  obtain ⟨v, l, rfl, hsl, hw, hb⟩ := open_cellsb (fun n => [Value.int .i64 n]) I64 (fun _ => 1) (by decide) Try.cells3 (fun _ _ x h => (trod_i64 Try.underlying3 h).elim fun n hn => ⟨n, hn, bulk_one _⟩) Try.underlying42 h
  rw [sum_const] at hb
  exact ⟨v, l, rfl, by unfold RInts; rw [List.map_eq_flatMap]; exact hsl, hw, hb⟩
theorem open_bools (h : DataW.trod enc Try.prog w base spare held fuel 23 cs = some x) :
    ∃ v l, cs = [v] ∧ RBools w w.heap.size v l ∧ l.length + 1 ≤ Rows.uptoBulk x.1 := by
  obtain ⟨v, l, rfl, hsl, _, hb⟩ := open_cellsb (fun n => [Value.bool n]) (fun _ => True) (fun _ => 1) (by decide) Try.cells4 (fun _ _ x h => (DataW.trod_bool Try.underlying4 h).elim fun n hn => ⟨n, ⟨hn.1, trivial⟩, bulk_one _⟩) Try.underlying23 h
  rw [sum_const] at hb
  exact ⟨v, l, rfl, by unfold RBools; rw [List.map_eq_flatMap]; exact hsl, hb⟩
theorem open_code (h : DataW.trod enc Try.prog w base spare held fuel 22 cs = some x) :
    ∃ v l, cs = [v] ∧ RCode w w.heap.size v l ∧ (∀ i ∈ l, WfI i) ∧ l.length + 1 ≤ Rows.uptoBulk x.1 := by
  obtain ⟨v, l, rfl, hsl, hw, hb⟩ := open_cellsb cellsI WfI (fun _ => 1) (by decide) Try.cells39 (fun _ _ x h => (trod_instr h).elim fun n hn => ⟨n, hn, bulk_one _⟩) Try.underlying22 h
  rw [sum_const] at hb
  exact ⟨v, l, rfl, hsl, hw, hb⟩
theorem trod_var (h : DataW.trod enc Try.prog w base spare held fuel 88 cs = some x) : ∃ v, cs = cellsV v ∧ I64 v.size := by
  obtain ⟨hl, n, xs, hxl, hx, hf⟩ := trod_parts Try.underlying88 h
  rw [Try.cells88] at hl
  obtain ⟨c0, c1, c2, rfl⟩ := list3 hl
  obtain ⟨x0, x1, x2, rfl⟩ := list3 hxl
  have h0 := hf 0 9 0 rfl
  have h1 := hf 1 4 1 rfl
  have h2 := hf 2 3 2 rfl
  rw [Try.cells9] at h0
  rw [Try.cells4] at h1
  rw [Try.cells3] at h2
  obtain ⟨s, e0, _⟩ := DataW.trod_string Try.underlying9 h0
  obtain ⟨b, e1, _⟩ := DataW.trod_bool Try.underlying4 h1
  obtain ⟨n2, e2, w2⟩ := trod_i64 Try.underlying3 h2
  simp at e0 e1 e2
  subst e0 e1 e2
  exact ⟨⟨s.data.toList, b, n2⟩, by simp [cellsV], w2⟩
theorem open_vars (h : DataW.trod enc Try.prog w base spare held fuel 24 cs = some x) :
    ∃ v l, cs = [v] ∧ RVars w w.heap.size v l ∧ (∀ v ∈ l, I64 (Ev.Vr.size v)) ∧ l.length + 1 ≤ Rows.uptoBulk x.1 := by
  obtain ⟨v, l, rfl, hsl, hw, hb⟩ := open_cellsb cellsV (fun v => I64 v.size) (fun _ => 1) (by decide) Try.cells88 (fun _ _ x h => (trod_var h).elim fun n hn => ⟨n, hn, bulk_one _⟩) Try.underlying24 h
  rw [sum_const] at hb
  exact ⟨v, l, rfl, hsl, hw, hb⟩
structure WfF (f : Ev.Flat) : Prop where
  code : ∀ i ∈ f.code, WfI i
  params : I64 f.params
  arrays : ∀ v ∈ f.arrays, I64 (Ev.Vr.size v)
theorem open_flat (h : DataW.trod enc Try.prog w base spare held fuel 26 cs = some x) :
    ∃ vc vs va f, cs = [vc, vs, .int .i64 f.params, va] ∧ RCode w w.heap.size vc f.code ∧ RBools w w.heap.size vs f.secret ∧ RVars w w.heap.size va f.arrays ∧ WfF f ∧
      f.code.length + f.secret.length + f.arrays.length + 1 ≤ Rows.uptoBulk x.1 := by
  obtain ⟨hl, n, xs, hxl, hx, hf⟩ := trod_parts Try.underlying26 h
  rw [Try.cells26] at hl
  obtain ⟨c0, c1, c2, c3, rfl⟩ := list4 hl
  obtain ⟨x0, x1, x2, x3, rfl⟩ := list4 hxl
  have h0 := hf 0 22 0 rfl
  have h1 := hf 1 23 1 rfl
  have h2 := hf 2 3 2 rfl
  have h3 := hf 3 24 3 rfl
  rw [Try.cells22] at h0
  rw [Try.cells23] at h1
  rw [Try.cells3] at h2
  rw [Try.cells24] at h3
  obtain ⟨vc, lc, e0, r0, w0, b0⟩ := open_code h0
  obtain ⟨vs, ls, e1, r1, b1⟩ := open_bools h1
  obtain ⟨p, e2, w2⟩ := trod_i64 Try.underlying3 h2
  obtain ⟨va, la, e3, r3, w3, b3⟩ := open_vars h3
  simp at e0 e1 e2 e3
  subst e0 e1 e2 e3
  refine ⟨_, _, _, ⟨lc, ls, p, la⟩, rfl, r0, r1, r3, ⟨w0, w2, w3⟩, ?_⟩
  rw [hx]
  simp only [List.map_cons, List.map_nil, Rows.uptoBulk, Rows.uptoBulkAll]
  omega
theorem open_lists (h : DataW.trod enc Try.prog w base spare held fuel 43 cs = some x) :
    ∃ v l, cs = [v] ∧ RLists w w.heap.size v l ∧ (∀ a ∈ l, ∀ n ∈ a, I64 n) ∧ l.length + l.flatten.length + 1 ≤ Rows.uptoBulk x.1 := by
  obtain ⟨v, css, l, rfl, hsl, hlen, hone, hr, hb⟩ := open_SLb (fun cs a => ∃ u, cs = [u] ∧ RInts w w.heap.size u a ∧ (∀ n ∈ a, I64 n)) (fun a : List Int => a.length + 1) (by decide) Try.cells42
    (fun _ _ x h => by obtain ⟨u, a, h1, h2, h3, h4⟩ := open_ints h; exact ⟨a, ⟨u, h1, h2, h3⟩, h4⟩) Try.underlying43 h
  have hsum : ∀ l : List (List Int), (l.map fun a => a.length + 1).sum = l.length + l.flatten.length := fun l => by
    induction l with
    | nil => rfl
    | cons a r ih => simp only [List.map_cons, List.sum_cons, ih, List.length_cons, List.flatten_cons, List.length_append]; omega
  rw [hsum] at hb
  have hfl : css.flatten.length = l.length := by rw [flatten_len _ hone, hlen]; omega
  refine ⟨v, l, rfl, ⟨css.flatten, hfl, hsl, fun k u a hu ha => ?_⟩, fun a ha => ?_, hb⟩
  · have hk : k < css.length := by rw [hlen]; exact (List.getElem?_eq_some_iff.1 ha).1
    obtain ⟨u', e, hi, _⟩ := hr k css[k] a (List.getElem?_eq_getElem hk) ha
    have := flatten_at css hone k 0 (by decide)
    rw [Nat.mul_one, Nat.add_zero, hu, List.getElem?_eq_getElem hk, e] at this
    simp at this
    subst this
    exact hi
  · obtain ⟨k, hk, rfl⟩ := List.getElem_of_mem ha
    obtain ⟨u', e, _, hi⟩ := hr k (css[k]'(by omega)) l[k] (List.getElem?_eq_getElem (by omega)) (List.getElem?_eq_getElem hk)
    exact hi
structure WfG (g : Ev.Given) : Prop where
  words : ∀ n ∈ g.words, I64 n
  arrays : ∀ a ∈ g.arrays, ∀ n ∈ a, I64 n
theorem open_given (h : DataW.trod enc Try.prog w base spare held fuel 45 cs = some x) :
    ∃ vw va g, cs = [vw, va] ∧ RInts w w.heap.size vw g.words ∧ RLists w w.heap.size va g.arrays ∧ WfG g ∧ g.words.length + g.arrays.length + g.arrays.flatten.length + 1 ≤ Rows.uptoBulk x.1 := by
  obtain ⟨hl, n, xs, hxl, hx, hf⟩ := trod_parts Try.underlying45 h
  rw [Try.cells45] at hl
  obtain ⟨c0, c1, rfl⟩ := list2 hl
  obtain ⟨x0, x1, rfl⟩ := list2 hxl
  have h0 := hf 0 42 0 rfl
  have h1 := hf 1 43 1 rfl
  rw [Try.cells42] at h0
  rw [Try.cells43] at h1
  obtain ⟨vw, lw, e0, r0, w0, b0⟩ := open_ints h0
  obtain ⟨va, la, e1, r1, w1, b1⟩ := open_lists h1
  simp at e0 e1
  subst e0 e1
  refine ⟨_, _, ⟨lw, la⟩, rfl, r0, r1, ⟨w0, w1⟩, ?_⟩
  rw [hx]
  simp only [List.map_cons, List.map_nil, Rows.uptoBulk, Rows.uptoBulkAll]
  omega
theorem open_table (h : DataW.trod enc Try.prog w base spare held fuel 29 cs = some x) :
    ∃ t : List Int, cs = t.map (Value.int .i64) ∧ t.length = 18 ∧ ∀ n ∈ t, I64 n := by
  obtain ⟨hl, n, xs, hxl, hx, hf⟩ := trod_parts Try.underlying29 h
  rw [Try.cells29] at hl
  have hxl1 : xs.length = 1 := hxl
  obtain ⟨x0, hx0⟩ : ∃ x0, xs[0]? = some x0 := ⟨xs[0], List.getElem?_eq_getElem (by omega)⟩
  have h0 := hf 0 27 0 rfl
  rw [Try.cells27, List.drop_zero, List.take_of_length_le (by omega), hx0] at h0
  obtain ⟨ys, m, _, _, _, hyl, hy⟩ := DataW.trod_array Try.underlying27 h0
  rw [Try.cells3] at hy
  have hat : ∀ i, i < 18 → ∃ n, cs[i]? = some (.int .i64 n) ∧ I64 n := fun i hi => by
    have := hy i hi
    rw [List.getElem?_eq_getElem (by omega)] at this
    obtain ⟨n, e, hn⟩ := trod_i64 Try.underlying3 this
    refine ⟨n, ?_, hn⟩
    have e' := congrArg (fun l : List Value => l[0]?) e
    simp only [List.getElem?_take, List.getElem?_drop] at e'
    simpa using e'
  obtain ⟨t, ht, hr⟩ := pick_list (fun i n => cs[i]? = some (.int .i64 n) ∧ I64 n) 18 hat
  refine ⟨t, ?_, ht, fun n hn => ?_⟩
  · apply List.ext_getElem?
    intro i
    by_cases hi : i < 18
    · have hti : t[i]? = some t[i] := List.getElem?_eq_getElem (by omega)
      rw [(hr i _ hti).1, List.getElem?_map, hti]
      rfl
    · rw [List.getElem?_eq_none (by omega), List.getElem?_eq_none (by simp; omega)]
  · obtain ⟨i, hi, rfl⟩ := List.getElem_of_mem hn
    exact (hr i _ (List.getElem?_eq_getElem hi)).2
end
end Go.Proofs.Ytljcgcllhcdleaa
/- Images, from the form's reading to plain data, with their bulk. -/
namespace Go.Proofs.Ytljcgcllhcdleaa
open Go.RowKit Go.ChangeShapes Go.WideShapes Go.Deep
theorem Try.cells74 : Try.prog.cellsOf 74 = 1 := by kernel_rfl
theorem Try.cells76 : Try.prog.cellsOf 76 = 3 := by kernel_rfl
section
variable {H : Type} {enc : TypeId × Value → H} {w : World} {base : Nat} {spare : Nat → Bool} {held : Bool} {fuel : Nat} {cs : List Value} {x : DataW H × List MemPlace}
theorem open_bytesb (h : DataW.trod enc Try.prog w base spare held fuel 74 cs = some x) :
    ∃ v l, cs = [v] ∧ RBytes w w.heap.size v l ∧ (∀ n ∈ l, 0 ≤ n ∧ n ≤ 255) ∧ l.length + 1 ≤ Rows.uptoBulk x.1 := by
  obtain ⟨v, l, rfl, hsl, hw, hb⟩ := open_cellsb (fun n => [Value.int .u8 n]) (fun n => 0 ≤ n ∧ n ≤ 255) (fun _ => 1) (by decide) Try.cells5 (fun _ _ x h => (trod_u8 Try.underlying5 h).elim fun n hn => ⟨n, hn, bulk_one _⟩) Try.underlying74 h
  rw [sum_const] at hb
  exact ⟨v, l, rfl, by unfold RBytes; rw [List.map_eq_flatMap]; exact hsl, hw, hb⟩
theorem open_image (h : DataW.trod enc Try.prog w base spare held fuel 76 cs = some x) :
    ∃ vb va b p ay, cs = [vb, .int .i64 p, va] ∧ RBytes w w.heap.size vb b ∧ RVars w w.heap.size va ay ∧ ((∀ n ∈ b, 0 ≤ n ∧ n ≤ 255) ∧ I64 p) ∧ b.length + ay.length + 1 ≤ Rows.uptoBulk x.1 := by
  obtain ⟨hl, n, xs, hxl, hx, hf⟩ := trod_parts Try.underlying76 h
  rw [Try.cells76] at hl
  obtain ⟨c0, c1, c2, rfl⟩ := list3 hl
  obtain ⟨x0, x1, x2, rfl⟩ := list3 hxl
  have h0 := hf 0 74 0 rfl
  have h1 := hf 1 3 1 rfl
  have h2 := hf 2 24 2 rfl
  rw [Try.cells74] at h0
  rw [Try.cells3] at h1
  rw [Try.cells24] at h2
  obtain ⟨vb, lb, e0, r0, w0, b0⟩ := open_bytesb h0
  obtain ⟨p, e1, w1⟩ := trod_i64 Try.underlying3 h1
  obtain ⟨va, la, e2, r2, w2, b2⟩ := open_vars h2
  simp at e0 e1 e2
  subst e0 e1 e2
  refine ⟨_, _, lb, p, la, rfl, r0, r2, ⟨w0, w1⟩, ?_⟩
  rw [hx]
  simp only [List.map_cons, List.map_nil, Rows.uptoBulk, Rows.uptoBulkAll]
  omega
end
end Go.Proofs.Ytljcgcllhcdleaa
