import Derived.ProofKit
import Derived.OpenShut
import Derived.Deep.Slices
import Derived.Deep.Fields
import Derived.ChangeSame
import Derived.Test.YtpbflgemhcaooaaDoorLib
/- From the form's reading of an argument to plain data: slices of whatever elements. -/
namespace Go.Proofs.YtpbflgemhcaooaaDoor
open Go.RowKit Go.ChangeShapes Go.WideShapes Go.Deep
section
variable {H : Type} {enc : TypeId × Value → H} {P : Program} {w : World} {base : Nat} {spare : Nat → Bool} {held : Bool}

theorem plain_add (b off j : Nat) : (⟨b, off, none⟩ : Addr).add j = ⟨b, off + j, none⟩ := by
  unfold Addr.add
  by_cases h : j = 0
  · subst h; rfl
  · rw [if_neg h]

theorem pick_list {α : Type} (R : Nat → α → Prop) : ∀ n, (∀ i, i < n → ∃ a, R i a) → ∃ l : List α, l.length = n ∧ ∀ i a, l[i]? = some a → R i a
  | 0, _ => ⟨[], rfl, fun i a h => by simp at h⟩
  | n + 1, h => by
    obtain ⟨l, hl, hr⟩ := pick_list R n (fun i hi => h i (by omega))
    obtain ⟨a, ha⟩ := h n (by omega)
    refine ⟨l ++ [a], by simp [hl], fun i b hb => ?_⟩
    by_cases hi : i < n
    · rw [List.getElem?_append_left (by omega)] at hb
      exact hr i b hb
    · have hlt : i < (l ++ [a]).length := by
        rcases Nat.lt_or_ge i (l ++ [a]).length with h1 | h1
        · exact h1
        · simp [List.getElem?_eq_none h1] at hb
      have : i = n := by simp [hl] at hlt; omega
      subst this
      rw [List.getElem?_append_right (by omega)] at hb
      simp [hl] at hb
      subst hb
      exact ha

theorem flatten_at {α : Type} {size : Nat} : ∀ (css : List (List α)), (∀ c ∈ css, c.length = size) → ∀ k j, j < size → css.flatten[k * size + j]? = (css[k]?).bind (fun c => c[j]?)
  | [], _, k, j, _ => by simp
  | c :: r, h, 0, j, hj => by
    have hc : c.length = size := h c (by simp)
    simp only [List.flatten_cons, Nat.zero_mul, Nat.zero_add]
    rw [List.getElem?_append_left (by omega)]
    simp
  | c :: r, h, k + 1, j, hj => by
    have hc : c.length = size := h c (by simp)
    have ih := flatten_at r (fun c' h' => h c' (by simp [h'])) k j hj
    simp only [List.flatten_cons]
    rw [List.getElem?_append_right (by rw [hc, Nat.succ_mul]; omega)]
    have : (k + 1) * size + j - c.length = k * size + j := by rw [hc, Nat.succ_mul]; omega
    rw [this, ih]
    simp

theorem flatten_len {α : Type} {size : Nat} : ∀ (css : List (List α)), (∀ c ∈ css, c.length = size) → css.flatten.length = css.length * size
  | [], _ => by simp
  | c :: r, h => by
    have hc : c.length = size := h c (by simp)
    have ih := flatten_len r (fun c' h' => h c' (by simp [h']))
    simp [List.flatten_cons, ih, hc, Nat.succ_mul]
    omega

theorem open_SL {α : Type} (R : List Value → α → Prop) {size : Nat} {t e : TypeId} {fuel : Nat} {cs : List Value} {x : DataW H × List MemPlace} (hs : 0 < size) (hC : P.cellsOf e = size)
    (hel : ∀ fuel cs x, DataW.trod enc P w base spare held fuel e cs = some x → ∃ a, R cs a) (ht : P.underlying t = some (.slice e)) (h : DataW.trod enc P w base spare held fuel t cs = some x) :
    ∃ (v : Value) (css : List (List Value)) (l : List α), cs = [v] ∧ SL w w.heap.size size v l.length (List.flatten css) ∧ css.length = l.length ∧ (∀ c ∈ css, c.length = size) ∧ ∀ (i : Nat) c a, css[i]? = some c → l[i]? = some a → R c a := by
  rcases open_slice ht h with ⟨rfl, _⟩ | ⟨a, len, cap, m, n, D, Pl, rfl, _, hl, hm, hmm, _, hi⟩
  · exact ⟨_, [], [], rfl, SL.nil_ _ _ _, rfl, (by simp), (by simp)⟩
  · have hle : len ≤ m := by rw [hmm]; split <;> omega
    obtain ⟨ps, hpl, hp⟩ := pick_list (fun i (p : List Value × α) => w.cells? base (a.add (i * size)) size = some p.1 ∧ R p.1 p.2) len (fun i hlt => by
      obtain ⟨cs', hc, htr⟩ := hi i (by omega)
      obtain ⟨b, hb⟩ := hel _ _ _ htr
      exact ⟨(cs', b), by rw [hC] at hc; exact hc, hb⟩)
    have hlen : ∀ c ∈ ps.map (·.1), c.length = size := by
      intro c hc
      obtain ⟨p, hpm, rfl⟩ := List.mem_map.1 hc
      obtain ⟨i, hilt, hie⟩ := List.getElem_of_mem hpm
      have := (hp i p (by rw [List.getElem?_eq_getElem hilt, hie])).1
      obtain ⟨_, hlc, _⟩ := World.cells?_some this
      exact hlc
    refine ⟨_, ps.map (·.1), ps.map (·.2), rfl, ?_, by simp, hlen, ?_⟩
    · refine ⟨by rw [flatten_len _ hlen]; simp, some a, cap, by simp [hpl], by simpa [hpl] using hl, hm, (fun h => by cases h), fun hn => ?_⟩
      have h0 : 0 < len := by simpa [hpl] using hn
      obtain ⟨b, off, spot⟩ := a
      have hcell : ∀ i j, i < len → j < size → w.cell? ((⟨b, off, spot⟩ : Addr).add (i * size + j)) = (ps.map (·.1)).flatten[i * size + j]? := by
        intro i j hil hj
        have hilt : i < ps.length := by omega
        have hpi := hp i (ps[i]) (List.getElem?_eq_getElem hilt)
        obtain ⟨_, _, hat⟩ := World.cells?_some hpi.1
        have := hat j hj
        rw [← Go.Deep.add_add] 
        rw [this, flatten_at _ hlen i j hj]
        simp [hilt]
      have hfl : (ps.map (·.1)).flatten.length = len * size := by rw [flatten_len _ hlen]; simp [hpl]
      have c0 := hcell 0 0 h0 hs
      have hpos : 0 < (ps.map (·.1)).flatten.length := by rw [hfl]; exact Nat.mul_pos h0 hs
      simp only [Nat.zero_mul, Nat.zero_add] at c0
      rw [List.getElem?_eq_getElem hpos] at c0
      have hspot : spot = none := by simpa [Addr.add] using World.cell?_spot c0
      subst hspot
      have hlt := World.block_lt_of_cell? w _ c0
      refine ⟨b, off, rfl, by simpa [Addr.add] using hlt, fun j u hu => ?_⟩
      have hjl : j < len * size := by
        rcases Nat.lt_or_ge j (len * size) with h1 | h1
        · exact h1
        · rw [List.getElem?_eq_none (by omega)] at hu; cases hu
      have hdm : j = j / size * size + j % size := by rw [Nat.mul_comm]; exact (Nat.div_add_mod j size).symm
      have h1 : j / size < len := Nat.div_lt_of_lt_mul (by rw [Nat.mul_comm]; exact hjl)
      have := hcell (j / size) (j % size) h1 (Nat.mod_lt _ hs)
      rw [← hdm, hu] at this
      rw [plain_add] at this
      exact this
    · intro i c b hc hb
      simp only [List.getElem?_map, Option.map_eq_some_iff] at hc hb
      obtain ⟨p, hpi, rfl⟩ := hc
      obtain ⟨q, hqi, rfl⟩ := hb
      rw [hpi] at hqi
      cases hqi
      exact (hp i p hpi).2
end
end Go.Proofs.YtpbflgemhcaooaaDoor
