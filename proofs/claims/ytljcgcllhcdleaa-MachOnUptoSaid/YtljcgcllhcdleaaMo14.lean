import Derived.Test.YtljcgcllhcdleaaMo13
import Derived.Test.YtljcgcllhcdleaaMo2
import Derived.Test.YtljcgcllhcdleaaMo5
import Derived.Test.YtljcgcllhcdleaaMo6
import Derived.Test.YtljcgcllhcdleaaMo11
import Derived.Test.YtljcgcllhcdleaaMo4
import Derived.Test.YtljcgcllhcdleaaMo12
import Derived.Deep.RegionHeld3
import Derived.Deep.AppendLies
import Derived.Deep.DeepCutAuto
import Derived.Outline
import Derived.Test.YtljcgcllhcdleaaMo8
import Derived.Test.YtljcgcllhcdleaaMo7
/- What is known of heavy operations' results. -/
namespace Go.Proofs.Ytljcgcllhcdleaa
open Go.RowKit
set_option linter.unusedVariables false
/-- a row of one's own -/
def Hv.own (base : Nat) (e : TypeId) (size n : Nat) (xs : List Value) : Hv where
  R v w := w.ownsRow base e size v n xs
  ok v := ∃ A c, v = .slice A n c
  imp v w h := by obtain ⟨A, c, e, _⟩ := SL.form (SL.of_own h); exact ⟨A, c, e⟩
  dum := ⟨_, none, 0, rfl⟩
  stay v w w' hb h := owns_below h hb
/-- one value -/
def Hv.is (c : Value) : Hv where
  R v _ := v = c
  ok v := v = c
  imp v w h := h
  dum := ⟨c, rfl⟩
  stay v w w' _ h := h
/-- a new slice, n elements -/
def Hv.lit (cs : Array Value) (t : TypeId) (n : Nat) : Hv where
  R v w := ∃ g, v = .slice (some ⟨g, 0, none⟩) n n ∧ w.heap[g]? = some (.cells cs t (0, 0))
  ok v := ∃ g, v = .slice (some ⟨g, 0, none⟩) n n
  imp v w h := by obtain ⟨g, e, _⟩ := h; exact ⟨g, e⟩
  dum := ⟨_, 0, rfl⟩
  stay v w w' hb h := by obtain ⟨g, e, hg⟩ := h; exact ⟨g, e, (hb.block g (Array.getElem?_eq_some_iff.1 hg).1).trans hg⟩
/-- a new cell block -/
def Hv.box (cs : Array Value) (t : TypeId) : Hv where
  R v w := ∃ g, v = .pointer (some ⟨g, 0, none⟩) ∧ w.heap[g]? = some (.cells cs t (0, 0))
  ok v := ∃ g, v = .pointer (some ⟨g, 0, none⟩)
  imp v w h := by obtain ⟨g, e, _⟩ := h; exact ⟨g, e⟩
  dum := ⟨_, 0, rfl⟩
  stay v w w' hb h := by obtain ⟨g, e, hg⟩ := h; exact ⟨g, e, (hb.block g (Array.getElem?_eq_some_iff.1 hg).1).trans hg⟩
/-- a slice that reads so -/
def Hv.sl (size n : Nat) (xs : List Value) : Hv where
  R v w := SL w w.heap.size size v n xs
  ok v := ∃ A c, v = .slice A n c
  imp v w h := by obtain ⟨A, c, e, _⟩ := SL.form h; exact ⟨A, c, e⟩
  dum := ⟨_, none, 0, rfl⟩
  stay v w w' hb h := SL.at_ h hb (Nat.le_refl _)
theorem lit_heap {w : World} {A n : Nat} {o : Obj} (h : ∃ g, Value.slice (some ⟨A, 0, none⟩) n n = .slice (some ⟨g, 0, none⟩) n n ∧ w.heap[g]? = some o) : w.heap[A]? = some o := by
  obtain ⟨g, e, hg⟩ := h
  injection e with e
  injection e with e
  injection e with e
  subst e
  exact hg
theorem box_heap {w : World} {A : Nat} {o : Obj} (h : ∃ g, Value.pointer (some ⟨A, 0, none⟩) = .pointer (some ⟨g, 0, none⟩) ∧ w.heap[g]? = some o) : w.heap[A]? = some o := by
  obtain ⟨g, e, hg⟩ := h
  injection e with e
  injection e with e
  injection e with e
  subst e
  exact hg
theorem cell_of_block {w : World} {g : Nat} {cs : Array Value} {t : TypeId} (h : w.heap[g]? = some (.cells cs t (0, 0))) (j : Nat) : w.cell? ⟨g, j, none⟩ = cs[j]? := by
  unfold World.cell?
  rw [h]
  simp
theorem cells_of_block {w : World} {g : Nat} {cs : Array Value} {t : TypeId} (h : w.heap[g]? = some (.cells cs t (0, 0))) : ∀ j u, cs.toList[j]? = some u → w.cell? ((⟨g, 0, none⟩ : Addr).add j) = some u := by
  intro j u hj
  rw [show (⟨g, 0, none⟩ : Addr).add j = ⟨g, j, none⟩ by unfold Addr.add; split <;> simp_all, cell_of_block h]
  simpa using hj
end Go.Proofs.Ytljcgcllhcdleaa
/- What is known of heavy operations' results (HvBase), beside what is known of runs. -/
/- Chapter 11: mach.Load, and the reference's. -/
namespace Go.Proofs.Ytljcgcllhcdleaa
open Go.RowKit
set_option linter.unusedSimpArgs false
set_option linter.unusedVariables false
theorem RBytes.chunk {w : World} {B bk o c j : Nat} {b : List Int} (h : RBytes w B (.slice (some ⟨bk, o, none⟩) b.length c) b) (hj : 8 * j + 8 ≤ b.length) : RBytes w B (.slice (some ⟨bk, o + 8 * j, none⟩) 8 (c - 8 * j)) (Ev.chunk b j) := by
  obtain ⟨hl, A, c', e, h1, h2, h3, h4⟩ := h
  injection e with eA _ ec
  subst eA ec
  obtain ⟨bk', o', e, hb, hc⟩ := h4 (by omega)
  injection e with e
  injection e with e1 e2
  subst e1 e2
  have hcl := Ev.chunk_len hj
  refine ⟨by simp, _, _, by rw [hcl], by omega, by omega, (fun h => by cases h), fun _ => ⟨_, _, rfl, hb, fun k u hu => ?_⟩⟩
  have hk : k < 8 := by
    have := (List.getElem?_eq_some_iff.1 hu).1
    rw [List.length_map, hcl] at this
    exact this
  have := hc (8 * j + k) u (by
    rw [← hu]
    unfold Ev.chunk
    simp only [List.getElem?_map, List.getElem?_take, List.getElem?_drop]
    rw [if_pos hk])
  rw [← Nat.add_assoc] at this
  exact this
theorem own_fresh {w' : World} {base n k : Nat} {cs : Array Value} {t e : TypeId} {l : List Int} (hk : k = w'.heap.size) (hb : base ≤ w'.heap.size) (hn : n = l.length) (he : t = e) (hc : cs.toList = l.map (Value.int .i64)) (hm : n ≤ maxLen) :
    (w'.alloc (.cells cs t)).ownsRow base e 1 (.slice (some ⟨k, 0, none⟩) n n) l.length (l.map (Value.int .i64)) := by
  subst hk hn he
  obtain ⟨c⟩ := cs
  simp only at hc
  subst hc
  exact own_of_full (heap_alloc_new w' _) (by simp) hb hm
set_option maxHeartbeats 400000 in
theorem readsOwn_any (i : Ev.Instr) (w : World) :
    Calls Try.prog 35 #[.agg #[.int .i64 i.op, .int .i64 i.d, .int .i64 i.a, .int .i64 i.b, .int .i64 i.c, .int .i64 i.imm]] w fun e w' => ∃ v, e = .returned v ∧ w'.ownsRow w.heap.size 3 1 v (Ev.reads i).length ((Ev.reads i).map (Value.int .i64)) ∧ Below w.heap.size w w' := by
  go_enter Try.func35, Try.ntmps35
  go_wp2
  all_goals go_ret
  all_goals
    first
    | (have hr : Ev.reads i = [i.a, i.b] := by (simp_all [Ev.reads]; done)
       exact ⟨_, rfl, by rw [hr]; exact own_fresh (by simp) (by simp) rfl rfl rfl (by decide), by (repeat' first | with_reducible (first | exact Below.refl _ _ | assumption | refine Below.alloc ?_ ?_ _ | refine below_drewN ?_ _ | refine Below.drew ?_ | refine Below.setCell ?_ ?_ _ | refine Below.trans ?_ (Below.mono (by with_reducible assumption) ?_)) | go_size)⟩)
    | (have hr : Ev.reads i = [i.a, i.b, i.c] := by (simp_all [Ev.reads]; done)
       exact ⟨_, rfl, by rw [hr]; exact own_fresh (by simp) (by simp) rfl rfl rfl (by decide), by (repeat' first | with_reducible (first | exact Below.refl _ _ | assumption | refine Below.alloc ?_ ?_ _ | refine below_drewN ?_ _ | refine Below.drew ?_ | refine Below.setCell ?_ ?_ _ | refine Below.trans ?_ (Below.mono (by with_reducible assumption) ?_)) | go_size)⟩)
    | (have hr : Ev.reads i = [i.a, i.d] := by (simp_all [Ev.reads]; done)
       exact ⟨_, rfl, by rw [hr]; exact own_fresh (by simp) (by simp) rfl rfl rfl (by decide), by (repeat' first | with_reducible (first | exact Below.refl _ _ | assumption | refine Below.alloc ?_ ?_ _ | refine below_drewN ?_ _ | refine Below.drew ?_ | refine Below.setCell ?_ ?_ _ | refine Below.trans ?_ (Below.mono (by with_reducible assumption) ?_)) | go_size)⟩)
    | (have hr : Ev.reads i = [i.a] := by (simp_all [Ev.reads]; done)
       exact ⟨_, rfl, by rw [hr]; exact own_fresh (by simp) (by simp) rfl rfl rfl (by decide), by (repeat' first | with_reducible (first | exact Below.refl _ _ | assumption | refine Below.alloc ?_ ?_ _ | refine below_drewN ?_ _ | refine Below.drew ?_ | refine Below.setCell ?_ ?_ _ | refine Below.trans ?_ (Below.mono (by with_reducible assumption) ?_)) | go_size)⟩)
    | (have hr : Ev.reads i = [] := by (simp_all [Ev.reads]; (try omega); done)
       exact ⟨_, rfl, by rw [hr]; exact World.ownsRow_nil _ _ _ _, by (repeat' first | with_reducible (first | exact Below.refl _ _ | assumption | refine Below.alloc ?_ ?_ _ | refine below_drewN ?_ _ | refine Below.drew ?_ | refine Below.setCell ?_ ?_ _ | refine Below.trans ?_ (Below.mono (by with_reducible assumption) ?_)) | go_size)⟩)
theorem cell_six_new (w : World) (i : Ev.Instr) (t : TypeId) : ∀ j u, (cellsI i)[j]? = some u → (w.alloc (.cells (cellsI i).toArray t)).cell? ((⟨w.heap.size, 0, none⟩ : Addr).add j) = some u := by
  intro j u hj
  match j, hj with
  | 0, hj => simp [cellsI] at hj; subst hj; simp [Addr.add, cellsI]
  | 1, hj => simp [cellsI] at hj; subst hj; simp [Addr.add, cellsI]
  | 2, hj => simp [cellsI] at hj; subst hj; simp [Addr.add, cellsI]
  | 3, hj => simp [cellsI] at hj; subst hj; simp [Addr.add, cellsI]
  | 4, hj => simp [cellsI] at hj; subst hj; simp [Addr.add, cellsI]
  | 5, hj => simp [cellsI] at hj; subst hj; simp [Addr.add, cellsI]
  | j + 6, hj => simp [cellsI] at hj
theorem one_six (i : Ev.Instr) : ∀ u ∈ cellsI i, u.oneCell' = true := fun x hx => by
  simp [cellsI] at hx
  rcases hx with rfl | rfl | rfl | rfl | rfl | rfl <;> rfl
theorem load_form (b : List Int) (na : Nat) (h : b.length = 0 ∨ b.length % 8 ≠ 0) : Ev.loadErr b na = 2 ∧ Ev.load b na = [] := by
  have : Ev.loadErr b na = 2 := by unfold Ev.loadErr; rw [if_pos h]
  exact ⟨this, by unfold Ev.load; rw [if_pos (by omega)]⟩
theorem load_err {b : List Int} {na j : Nat} {e : Int} (h : ¬ (b.length = 0 ∨ b.length % 8 ≠ 0)) (hz : Ev.loadErrFrom b na (b.length / 8) 0 = Ev.loadErrFrom b na (b.length / 8 - j) j) (hj : j < b.length / 8) (he : Ev.loadOne na (Ev.chunk b j) = e) (h0 : e ≠ 0) : Ev.loadErr b na = e ∧ Ev.load b na = [] := by
  have : Ev.loadErr b na = e := by
    unfold Ev.loadErr
    rw [if_neg h, hz, show b.length / 8 - j = (b.length / 8 - j - 1) + 1 by omega, Ev.errFrom_stop he h0]
  exact ⟨this, by unfold Ev.load; rw [if_pos (by omega)]⟩
theorem load_on {b : List Int} {na j : Nat} (hz : Ev.loadErrFrom b na (b.length / 8) 0 = Ev.loadErrFrom b na (b.length / 8 - j) j) (hj : j < b.length / 8) (he : Ev.loadOne na (Ev.chunk b j) = 0) : Ev.loadErrFrom b na (b.length / 8) 0 = Ev.loadErrFrom b na (b.length / 8 - (j + 1)) (j + 1) := by
  rw [hz, show b.length / 8 - j = (b.length / 8 - (j + 1)) + 1 by omega, Ev.errFrom_on he]
theorem load_end {b : List Int} {na j : Nat} (h : ¬ (b.length = 0 ∨ b.length % 8 ≠ 0)) (hz : Ev.loadErrFrom b na (b.length / 8) 0 = Ev.loadErrFrom b na (b.length / 8 - j) j) (hj : j = b.length / 8) : Ev.loadErr b na = 0 ∧ Ev.load b na = Ev.instrs b (b.length / 8) := by
  have : Ev.loadErr b na = 0 := by
    unfold Ev.loadErr
    rw [if_neg h, hz, hj, Nat.sub_self]
    rfl
  exact ⟨this, by unfold Ev.load; rw [if_neg (by omega)]⟩
set_option maxRecDepth 8000 in
set_option maxHeartbeats 3200000 in
theorem load_any (b : List Int) (params : Int) (na : Nat) (ay : List Ev.Vr) (vb va : Value) (w : World) (hb : RBytes w w.heap.size vb b) (ha : RVars w w.heap.size va ay) (hy : Ev.Byt b) (hna : ay.length = na) (hl : b.length ≤ 1099511627776) :
    Calls Try.prog 45 #[.agg #[vb, .int .i64 params, va]] w fun e w' => ∃ v, e = .returned (.tuple #[v, .int .i64 (Ev.loadErr b na)]) ∧ RCode w' w'.heap.size v (Ev.load b na) ∧ Below w.heap.size w w' := by
  obtain ⟨Aa, ca, rfl, ha1, ha2⟩ := SL.form ha
  obtain ⟨Ab, cb, rfl, hb1, hb2⟩ := SL.form hb
  unfold maxLen at ha2 hb2
  have HBY := Lib.hid hb
  have HY := Lib.hid hy
  subst hna
  obtain ⟨i0, hi0, hz0, hz1, hz2⟩ := info_parts int_info
  have II := Lib.hid (⟨hi0, hz0, hz1, hz2⟩ : _ ∧ _ ∧ _ ∧ _)
  obtain ⟨i1, hi1, hy0, hy1, hy2⟩ := info_parts cloneCode_info
  have IC := Lib.hid (⟨hi1, hy0, hy1, hy2⟩ : _ ∧ _ ∧ _ ∧ _)
  clear hi0 hz0 hz1 hz2 hi1 hy0 hy1 hy2
  clear ha hb hy
  by_cases h0 : b.length = 0 ∨ b.length % 8 ≠ 0
  · have H := Lib.hid (load_form b ay.length h0)
    have e8 : (b.length : Int) % 8 = ((b.length % 8 : Nat) : Int) := by omega
    by_cases h1 : b.length % 8 = 0
    · have h2 : b.length = 0 := by omega
      rw [h2]
      clear h0 h1 h2 e8
      go_enter Try.func45, Try.ntmps45
      go_wp2
      go_ret2
      exact ⟨_, by rw [H.out.1]; rfl, by rw [H.out.2]; exact SL.nil_ _ _ _, by (repeat' first | with_reducible (first | exact Below.refl _ _ | assumption | refine Below.alloc ?_ ?_ _ | refine below_drewN ?_ _ | refine Below.drew ?_ | refine Below.setCell ?_ ?_ _ | refine Below.trans ?_ (Below.mono (by with_reducible assumption) ?_)) | go_size)⟩
    · have h2 : ((b.length : Int) % 8 != 0) = true := by rw [bne_iff_ne]; omega
      clear h0 h1 e8
      go_enter Try.func45, Try.ntmps45
      go_wp2
      go_ret2
      exact ⟨_, by rw [H.out.1]; rfl, by rw [H.out.2]; exact SL.nil_ _ _ _, by (repeat' first | with_reducible (first | exact Below.refl _ _ | assumption | refine Below.alloc ?_ ?_ _ | refine below_drewN ?_ _ | refine Below.drew ?_ | refine Below.setCell ?_ ?_ _ | refine Below.trans ?_ (Below.mono (by with_reducible assumption) ?_)) | go_size)⟩
  · have H0 := Lib.hid h0
    have h1 : ((b.length : Int) % 8 != 0) = false := by rw [bne_eq_false_iff_eq]; omega
    have h2 : ((b.length : Int) == 0) = false := by rw [beq_eq_false_iff_ne]; omega
    have hpos : 0 < b.length := by omega
    clear h0
    obtain ⟨bk, ob, cb', hv, hbk, _, _, _⟩ := SL.row HBY.out (by simpa using hpos)
    injection hv with hA _ hcr
    subst hA hcr
    go_enter Try.func45, Try.ntmps45
    go_wp2_with fail
    go_loopw [4, 5] (fun o kk wr => ∃ j : Nat, 8 * j ≤ b.length ∧ kk = .int .i64 ((8 * j : Nat) : Int) ∧ Hid (Ev.loadErrFrom b ay.length (b.length / 8) 0 = Ev.loadErrFrom b ay.length (b.length / 8 - j) j) ∧ Hid (wr.ownsRow (w.heap.size + 1) 39 6 o j ((Ev.instrs b j).flatMap cellsI)) ∧ Below (w.heap.size + 1) (w.alloc (.cells #[.slice (some ⟨bk, ob, none⟩) b.length cb, .int .i64 params, .slice Aa ay.length ca] 76)) wr) (fun _ kk _ => b.length - (intOf kk).toNat)
    case atStart => exact ⟨0, by omega, rfl, rfl, World.ownsRow_nil _ _ _ _, Below.refl _ _⟩
    case round =>
      obtain ⟨j, hj, rfl, HZ, HO, hB⟩ := hrel
      have f0 : wr.cell? ⟨w.heap.size, 0, none⟩ = some (.slice (some ⟨bk, ob, none⟩) b.length cb) := (hB.cell (p := ⟨w.heap.size, 0, none⟩) (by go_size)).trans (by go_simp)
      have f2 : wr.cell? ⟨w.heap.size, 2, none⟩ = some (.slice Aa ay.length ca) := (hB.cell (p := ⟨w.heap.size, 2, none⟩) (by go_size)).trans (by go_simp)
      have hsz := hB.size
      simp only [World.size_alloc] at hsz
      have HB := Lib.hid hB
      clear hB
      by_cases hlt : 8 * j + 8 ≤ b.length
      · have hc1 : 8 * j + 8 ≤ cb := by omega
        have hBw : Below w.heap.size w wr := by have e0 := HB.out; (repeat' first | with_reducible (first | exact Below.refl _ _ | assumption | refine Below.alloc ?_ ?_ _ | refine below_drewN ?_ _ | refine Below.drew ?_ | refine Below.setCell ?_ ?_ _ | refine Below.trans ?_ (Below.mono (by with_reducible assumption) ?_)) | go_size)
        have HP := Lib.hid (parse_any (Ev.chunk b j) _ wr (RBytes.chunk (SL.at_ HBY.out hBw (Nat.le_refl _)) hlt) (fun x hx => HY.out x (Ev.chunk_mem hx)))
        have HST := Lib.hid (fun e => @load_err b ay.length j e H0.out HZ.out (by omega))
        have HON := Lib.hid (@load_on b ay.length j HZ.out (by omega))
        have HSN := Lib.hid (Ev.instrs_snoc b j)
        have H1 := Lib.hid (@Ev.one_err ay.length (Ev.chunk b j))
        have H2 := Lib.hid (@Ev.one_bad ay.length (Ev.chunk b j))
        have H3 := Lib.hid (@Ev.one_ok ay.length (Ev.chunk b j))
        generalize Ev.parseOf (Ev.chunk b j) = i at *
        generalize Ev.parseErr (Ev.chunk b j) = pe at *
        generalize Ev.loadOne ay.length (Ev.chunk b j) = lo at *
        by_cases hpe : pe = 0
        · subst hpe
          go_wp2_with fail
          refine (HP.out).mono ?_
          rintro e w1 ⟨rfl, hb1⟩
          obtain ⟨kc1, kf1, s1⟩ := bfacts hb1
          (try simp only [World.size_alloc, World.size_setCell, World.size_drew, World.heap_drewN, Nat.add_one_le_iff] at s1)
          (try have z1 : wr.heap.size < w1.heap.size := by omega)
          have B1 : Hid (Below wr.heap.size wr w1) := by (show Below _ _ _); (repeat' first | with_reducible (first | exact Below.refl _ _ | assumption | refine Below.alloc ?_ ?_ _ | refine below_drewN ?_ _ | refine Below.drew ?_ | refine Below.setCell ?_ ?_ _ | refine Below.trans ?_ (Below.mono (by with_reducible assumption) ?_)) | go_size)
          obtain ⟨kd1, kg1, _⟩ := bfacts B1.out
          have BI : Below wr.heap.size wr (w1.alloc (.cells #[.int .i64 i.op, .int .i64 i.d, .int .i64 i.a, .int .i64 i.b, .int .i64 i.c, .int .i64 i.imm] 39)) := by have e1 := B1.out; (repeat' first | with_reducible (first | exact Below.refl _ _ | assumption | refine Below.alloc ?_ ?_ _ | refine below_drewN ?_ _ | refine Below.drew ?_ | refine Below.setCell ?_ ?_ _ | refine Below.trans ?_ (Below.mono (by with_reducible assumption) ?_)) | go_size)
          have sI : wr.heap.size < (w1.alloc (.cells #[.int .i64 i.op, .int .i64 i.d, .int .i64 i.a, .int .i64 i.b, .int .i64 i.c, .int .i64 i.imm] 39)).heap.size := by simp; omega
          have n0 : (w1.alloc (.cells #[.int .i64 i.op, .int .i64 i.d, .int .i64 i.a, .int .i64 i.b, .int .i64 i.c, .int .i64 i.imm] 39)).cell? ⟨w1.heap.size, 0, none⟩ = some (.int .i64 i.op) := by go_simp
          have n1 : (w1.alloc (.cells #[.int .i64 i.op, .int .i64 i.d, .int .i64 i.a, .int .i64 i.b, .int .i64 i.c, .int .i64 i.imm] 39)).cell? ⟨w1.heap.size, 1, none⟩ = some (.int .i64 i.d) := by go_simp
          have n2 : (w1.alloc (.cells #[.int .i64 i.op, .int .i64 i.d, .int .i64 i.a, .int .i64 i.b, .int .i64 i.c, .int .i64 i.imm] 39)).cell? ⟨w1.heap.size, 2, none⟩ = some (.int .i64 i.a) := by go_simp
          have n3 : (w1.alloc (.cells #[.int .i64 i.op, .int .i64 i.d, .int .i64 i.a, .int .i64 i.b, .int .i64 i.c, .int .i64 i.imm] 39)).cell? ⟨w1.heap.size, 3, none⟩ = some (.int .i64 i.b) := by go_simp
          have n4 : (w1.alloc (.cells #[.int .i64 i.op, .int .i64 i.d, .int .i64 i.a, .int .i64 i.b, .int .i64 i.c, .int .i64 i.imm] 39)).cell? ⟨w1.heap.size, 4, none⟩ = some (.int .i64 i.c) := by go_simp
          have n5 : (w1.alloc (.cells #[.int .i64 i.op, .int .i64 i.d, .int .i64 i.a, .int .i64 i.b, .int .i64 i.c, .int .i64 i.imm] 39)).cell? ⟨w1.heap.size, 5, none⟩ = some (.int .i64 i.imm) := by go_simp
          have sJ : w1.heap.size < (w1.alloc (.cells #[.int .i64 i.op, .int .i64 i.d, .int .i64 i.a, .int .i64 i.b, .int .i64 i.c, .int .i64 i.imm] 39)).heap.size := by simp
          obtain ⟨wI, hwI⟩ : ∃ wI, w1.alloc (.cells #[.int .i64 i.op, .int .i64 i.d, .int .i64 i.a, .int .i64 i.b, .int .i64 i.c, .int .i64 i.imm] 39) = wI := ⟨_, rfl⟩
          have HWI := Lib.hid hwI
          rw [hwI] at BI sI n0 n1 n2 n3 n4 n5 sJ
          have HBI := Lib.hid BI
          have HBIw := Lib.hid BI
          have HBwI := Lib.hid (hBw.trans (BI.mono hBw.size))
          have g0 := (BI.cell (p := ⟨w.heap.size, 0, none⟩) (by go_size)).trans f0
          have g2 := (BI.cell (p := ⟨w.heap.size, 2, none⟩) (by go_size)).trans f2
          clear hwI BI
          go_upto_region 10 with fail
          rw [HWI.out]
          clear kc1 kf1 kd1 kg1 f0
          generalize w1.heap.size = bI at *
          have hrl := Ev.readsM_le i
          go_cut [8] (fun o wx => Hid (wx.ownsRow wI.heap.size 3 1 o ((Ev.reads i ++ [i.d]).length) ((Ev.reads i ++ [i.d]).map (Value.int .i64))) ∧ Below wI.heap.size wI wx)
          case first =>
            refine wp_region_flock_tail 5 (fun k => match k with | 1 => some (Hv.own wI.heap.size 3 1 (Ev.reads i).length ((Ev.reads i).map (Value.int .i64))) | 4 => some (Hv.lit #[.int .i64 i.d] 3 1) | _ => none) (by kernel_rfl) (by kernel_rfl) (by kernel_rfl) (by kernel_rfl) ?_
            simp only [List.take_succ_cons, List.take_zero, List.drop_succ_cons, List.drop_zero]
            apply flock_light rfl
            case h => first | exact light_no (by rfl) | ((first | apply light_plain rfl | apply light_yes (by rfl)); intro w9 hw9; obtain ⟨hb9, hh9⟩ := hw9; have hB9 : Below wI.heap.size wI w9 := (by (repeat' first | with_reducible (first | exact Below.refl _ _ | assumption | refine Below.alloc ?_ ?_ _ | refine below_drewN ?_ _ | refine Below.drew ?_ | refine Below.setCell ?_ ?_ _ | refine Below.trans ?_ (Below.mono (by with_reducible assumption) ?_)) | go_size)); obtain ⟨kc9, kf9, s9⟩ := bfacts hb9; obtain ⟨kd9, kg9, _⟩ := bfacts hB9; skip; go_simp; try rfl)
            (try simp only [Act.put, List.setIfInBounds_toArray, List.set_cons_zero, List.set_cons_succ])
            refine flock_heavy _ rfl ?_ ?_
            · intro w9 hb9 hh9
              have hB9 : Below wI.heap.size wI w9 := (by (repeat' first | with_reducible (first | exact Below.refl _ _ | assumption | refine Below.alloc ?_ ?_ _ | refine below_drewN ?_ _ | refine Below.drew ?_ | refine Below.setCell ?_ ?_ _ | refine Below.trans ?_ (Below.mono (by with_reducible assumption) ?_)) | go_size))
              obtain ⟨kc9, kf9, s9⟩ := bfacts hb9
              obtain ⟨kd9, kg9, _⟩ := bfacts hB9
              skip
              go_wp2_with (go_at_call 35; refine (readsOwn_any i _).mono ?_; rintro e w4 ⟨v4, rfl, hO4, hb4⟩)
              refine grewTo_at (by rfl) (by (repeat' first | with_reducible (first | exact Below.refl _ _ | assumption | refine Below.alloc ?_ ?_ _ | refine below_drewN ?_ _ | refine Below.drew ?_ | refine Below.setCell ?_ ?_ _ | refine Below.trans ?_ (Below.mono (by with_reducible assumption) ?_)) | go_size)) ?_
              exact own_less hO4 (by go_size)
            intro x1 ok1
            (try simp only [Act.put, List.setIfInBounds_toArray, List.set_cons_zero, List.set_cons_succ])
            (try dsimp only [Hv.own, Hv.is, Hv.lit, Hv.box, Hv.sl] at ok1)
            first | subst ok1 | (obtain ⟨A1, c1, ok1⟩ := ok1; subst ok1) | (obtain ⟨A1, ok1⟩ := ok1; subst ok1) | skip
            apply flock_light rfl
            case h => first | exact light_no (by rfl) | ((first | apply light_plain rfl | apply light_yes (by rfl)); intro w9 hw9; obtain ⟨hb9, hh9⟩ := hw9; skip; go_simp; try rfl)
            (try simp only [Act.put, List.setIfInBounds_toArray, List.set_cons_zero, List.set_cons_succ])
            apply flock_light rfl
            case h => first | exact light_no (by rfl) | ((first | apply light_plain rfl | apply light_yes (by rfl)); intro w9 hw9; obtain ⟨hb9, hh9⟩ := hw9; have hB9 : Below wI.heap.size wI w9 := (by (repeat' first | with_reducible (first | exact Below.refl _ _ | assumption | refine Below.alloc ?_ ?_ _ | refine below_drewN ?_ _ | refine Below.drew ?_ | refine Below.setCell ?_ ?_ _ | refine Below.trans ?_ (Below.mono (by with_reducible assumption) ?_)) | go_size)); obtain ⟨kc9, kf9, s9⟩ := bfacts hb9; obtain ⟨kd9, kg9, _⟩ := bfacts hB9; skip; go_simp; try rfl)
            (try simp only [Act.put, List.setIfInBounds_toArray, List.set_cons_zero, List.set_cons_succ])
            refine flock_heavy _ rfl ?_ ?_
            · intro w9 hb9 hh9
              have hB9 : Below wI.heap.size wI w9 := (by (repeat' first | with_reducible (first | exact Below.refl _ _ | assumption | refine Below.alloc ?_ ?_ _ | refine below_drewN ?_ _ | refine Below.drew ?_ | refine Below.setCell ?_ ?_ _ | refine Below.trans ?_ (Below.mono (by with_reducible assumption) ?_)) | go_size))
              obtain ⟨kc9, kf9, s9⟩ := bfacts hb9
              obtain ⟨kd9, kg9, _⟩ := bfacts hB9
              skip
              go_wp2_with fail
              refine grewTo_at (by rfl) (by (repeat' first | with_reducible (first | exact Below.refl _ _ | assumption | refine Below.alloc ?_ ?_ _ | refine below_drewN ?_ _ | refine Below.drew ?_ | refine Below.setCell ?_ ?_ _ | refine Below.trans ?_ (Below.mono (by with_reducible assumption) ?_)) | go_size)) ?_
              exact ⟨_, rfl, heap_alloc_new _ _⟩
            intro x4 ok4
            (try simp only [Act.put, List.setIfInBounds_toArray, List.set_cons_zero, List.set_cons_succ])
            (try dsimp only [Hv.own, Hv.is, Hv.lit, Hv.box, Hv.sl] at ok4)
            first | subst ok4 | (obtain ⟨A4, c4, ok4⟩ := ok4; subst ok4) | (obtain ⟨A4, ok4⟩ := ok4; subst ok4) | skip
            refine flock_nil ?_
            intro w9 hb9 hh9
            have hB9 : Below wI.heap.size wI w9 := (by (repeat' first | with_reducible (first | exact Below.refl _ _ | assumption | refine Below.alloc ?_ ?_ _ | refine below_drewN ?_ _ | refine Below.drew ?_ | refine Below.setCell ?_ ?_ _ | refine Below.trans ?_ (Below.mono (by with_reducible assumption) ?_)) | go_size))
            have r4 := hh9 _ (.head _); dsimp only [Hv.own, Hv.is, Hv.lit, Hv.box, Hv.sl] at r4; (first | replace r4 := lit_heap r4 | replace r4 := box_heap r4 | skip); have r1 := hh9 _ (.tail _ (.head _)); dsimp only [Hv.own, Hv.is, Hv.lit, Hv.box, Hv.sl] at r1; (first | replace r1 := lit_heap r1 | replace r1 := box_heap r1 | skip); clear hh9
            (try dsimp only)
            go_wp2_with (at_builtin; refine wpList_append_own_at _ rfl (.tmp 43) (.tmp 46) _ rfl wI.heap.size 3 i0 (.int .i64 0) 1 8 Try.underlying42 II.out.1 II.out.2.1 II.out.2.2.1 II.out.2.2.2 rfl (by decide) _ _ _ rfl r1 ⟨A4, 0, none⟩ 1 1 [.int .i64 i.d] rfl rfl (cells_of_block r4) (fun x hx => by simp at hx; subst hx; rfl) (by unfold maxLen; omega) (by omega) hB9.size ?_; intro v3 w3 hown3 hg3 hn3 hat3)
            go_meet
            refine ⟨?_, ?_⟩
            · rw [List.map_append, List.length_append]
              exact hown3
            · exact hB9.grown hg3 hB9.size (fun q hq => (r1.lt q hq).1)
          case rest =>
            obtain ⟨HO8, hB8⟩ := hcut
            clear HBI
            have hrl2 : (Ev.reads i ++ [i.d]).length ≤ 4 := by simp; omega
            have q0 := (hB8.cell (p := ⟨bI, 0, none⟩) sJ).trans n0
            have q2 := (hB8.cell (p := ⟨bI, 2, none⟩) sJ).trans n2
            have q3 := (hB8.cell (p := ⟨bI, 3, none⟩) sJ).trans n3
            have sc := hB8.size
            have hB0 := Lib.hid hB8
            clear hB8
            go_upto_if 50 with fail
            go_cut [8] (fun o wx => Hid (wx.ownsRow wI.heap.size 3 1 o (Ev.lookedM i).length ((Ev.lookedM i).map (Value.int .i64))) ∧ Below wI.heap.size wI wx)
            case first => as_aux_lemma =>
              obtain ⟨A8, c8, hv8, _, _⟩ := SL.form (SL.of_own HO8.out)
              subst hv8
              by_cases h23 : i.op = 23
              · have hl : Ev.lookedM i = (Ev.reads i ++ [i.d]) ++ [i.a] := by unfold Ev.lookedM; rw [if_pos h23]
                have HL := Lib.hid hl
                clear hl
                go_wp2_with (at_builtin; refine wpList_append_own_at _ rfl (.tmp 51) (.tmp 54) _ rfl wI.heap.size 3 i0 (.int .i64 0) 1 8 Try.underlying42 II.out.1 II.out.2.1 II.out.2.2.1 II.out.2.2.2 rfl (by decide) _ _ _ rfl (HO8.out.alloc _) ⟨wc.heap.size, 0, none⟩ 1 1 [.int .i64 i.a] rfl rfl (cell_one_new _ _ _) (fun x hx => by simp at hx; subst hx; rfl) (by unfold maxLen; omega) (by omega) (by simp; omega) ?_; intro v3 w3 hown3 hg3 hn3 hat3)
                go_meet
                refine ⟨?_, ?_⟩
                · rw [HL.out, List.map_append, List.length_append]
                  exact hown3
                · exact (hB0.out.alloc sc _).grown hg3 (by simp; omega) (fun q hq => (HO8.out.lt q hq).1)
              · have hl : Ev.lookedM i = Ev.reads i ++ [i.d] := by unfold Ev.lookedM; rw [if_neg h23, List.append_nil]
                have HL := Lib.hid hl
                have g23 : (i.op == 23) = false := by simpa using h23
                clear hl h23
                go_wp2_with fail
                go_meet
                exact ⟨by rw [HL.out]; exact HO8.out, hB0.out⟩
            case rest =>
              clear HO8 q0 q2 q3 sc hB0
              obtain ⟨HO9, hB9⟩ := hcut
              obtain ⟨A8, c8, hv8, hc81, hc82⟩ := SL.form (SL.of_own HO9.out)
              subst hv8
              unfold maxLen at hc82
              have q0 := (hB9.cell (p := ⟨bI, 0, none⟩) sJ).trans n0
              have q1 := (hB9.cell (p := ⟨bI, 1, none⟩) sJ).trans n1
              have q2 := (hB9.cell (p := ⟨bI, 2, none⟩) sJ).trans n2
              have q3 := (hB9.cell (p := ⟨bI, 3, none⟩) sJ).trans n3
              have q4 := (hB9.cell (p := ⟨bI, 4, none⟩) sJ).trans n4
              have q5 := (hB9.cell (p := ⟨bI, 5, none⟩) sJ).trans n5
              have sc := hB9.size
              have HLR : Hid (RInts wc wc.heap.size (.slice A8 (Ev.lookedM i).length c8) (Ev.lookedM i)) := SL.of_own HO9.out
              have HBAD := Lib.hid (fun p => @Ev.lookedM_bad ay.length i p)
              have HGOOD := Lib.hid (@Ev.lookedM_good i)
              clear HO9 n0 n1 n2 n3 n4 n5
              generalize Ev.lookedM i = L at *
              go_wp2_with fail
              go_loop [58] (fun u => ∃ q : Nat, q ≤ L.length ∧ u = .int .i64 q ∧ Hid (∀ p ∈ L.take q, p < 120)) (fun u => L.length - (intOf u).toNat)
              case atStart => exact ⟨0, by omega, rfl, fun p hp => by simp at hp⟩
              case round =>
                obtain ⟨q, hq, rfl, HQ⟩ := hrel
                by_cases hql : q < L.length
                · obtain ⟨bL, oL, cL, hvL, hbL, _, _, hcL⟩ := SL.row HLR.out (by omega : 0 < L.length)
                  injection hvL with hA _ hcr
                  subst hA hcr
                  obtain ⟨x, hx⟩ : ∃ x, L[q]? = some x := ⟨L[q], List.getElem?_eq_getElem hql⟩
                  have cx := hcL q (.int .i64 x) (by simp [hx])
                  have HX := Lib.hid hx
                  clear hx hcL
                  by_cases hx1 : x < 120
                  · go_wp2_with fail
                    go_round
                    case rel =>
                      refine ⟨q + 1, by omega, by go_num, fun p hp => ?_⟩
                      rw [List.take_add_one, HX.out] at hp
                      rcases List.mem_append.1 hp with hp | hp
                      · exact HQ.out p hp
                      · simp at hp; omega
                    case measure => simp [intOf]; omega
                  · have HR := Lib.hid (HST.out 3 (H2.out (by trivial) (HBAD.out x (List.mem_of_getElem? HX.out) (by omega))) (by decide))
                    have hx2 : 120 ≤ x := by omega
                    clear hx1
                    go_wp2_with fail
                    go_ret2
                    exact ⟨_, by rw [HR.out.1]; rfl, by rw [HR.out.2]; exact SL.nil_ _ _ _, by have e1 := hB9; have e2 := HBwI; have e3 := e2.out; (repeat' first | with_reducible (first | exact Below.refl _ _ | assumption | refine Below.alloc ?_ ?_ _ | refine below_drewN ?_ _ | refine Below.drew ?_ | refine Below.setCell ?_ ?_ _ | refine Below.trans ?_ (Below.mono (by with_reducible assumption) ?_)) | go_size)⟩
                · have hqe : q = L.length := by omega
                  subst hqe
                  have HP2 := Lib.hid (HGOOD.out (fun p hp => HQ.out p (by rw [List.take_length]; exact hp)))
                  clear HQ hq
                  have BIw : Below wr.heap.size wr wc := HBIw.out.trans (hB9.mono (by omega))
                  have p2 := (BIw.cell (p := ⟨w.heap.size, 2, none⟩) (by go_size)).trans f2
                  have HBc := Lib.hid BIw
                  have hq3 := q3
                  clear BIw hB9
                  by_cases hbad : (i.op = 16 ∨ i.op = 17) ∧ (ay.length : Int) ≤ i.b
                  · have HR := Lib.hid (HST.out 3 (H2.out (by trivial) (Ev.bad_arr hbad.1 hbad.2)) (by decide))
                    obtain ⟨hb1, hb2⟩ := hbad
                    rcases hb1 with hb1 | hb1
                    · go_wp2_with fail
                      go_ret2
                      exact ⟨_, by rw [HR.out.1]; rfl, by rw [HR.out.2]; exact SL.nil_ _ _ _, by have e1 := HBc.out; have e3 := hBw; (repeat' first | with_reducible (first | exact Below.refl _ _ | assumption | refine Below.alloc ?_ ?_ _ | refine below_drewN ?_ _ | refine Below.drew ?_ | refine Below.setCell ?_ ?_ _ | refine Below.trans ?_ (Below.mono (by with_reducible assumption) ?_)) | go_size)⟩
                    · have g16 : (i.op == 16) = false := by rw [hb1]; rfl
                      go_wp2_with fail
                      go_ret2
                      exact ⟨_, by rw [HR.out.1]; rfl, by rw [HR.out.2]; exact SL.nil_ _ _ _, by have e1 := HBc.out; have e3 := hBw; (repeat' first | with_reducible (first | exact Below.refl _ _ | assumption | refine Below.alloc ?_ ?_ _ | refine below_drewN ?_ _ | refine Below.drew ?_ | refine Below.setCell ?_ ?_ _ | refine Below.trans ?_ (Below.mono (by with_reducible assumption) ?_)) | go_size)⟩
                  · have hok : i.op = 16 ∨ i.op = 17 → i.b < (ay.length : Int) := by omega
                    have HR := Lib.hid (HON.out (H3.out (by trivial) (Ev.good_arr HP2.out hok)))
                    have HOK := Lib.hid hok
                    clear hok hbad
                    have HO2 := Lib.hid (owns_below HO.out HBc.out)
                    have sw2 := HBc.out.size
                    have hBW := Lib.hid (HB.out.trans (HBc.out.mono hsz))
                    have HSN2 := Lib.hid (show (Ev.instrs b (j + 1)).flatMap cellsI = (Ev.instrs b j).flatMap cellsI ++ cellsI i by rw [HSN.out, List.flatMap_append]; simp)
                    have HLT := Lib.hid (fun q hq => (HO.out.lt q hq).1)
                    clear HBAD HGOOD HP2 HST HON H1 H2 H3 HSN HZ HP HBc HO B1 HWI HBIw HBwI q3 HLR
                    have q3 : wc.cell? ⟨bI, 3, none⟩ = some (.int .i64 i.b) := hq3
                    rcases (show i.op = 16 ∨ i.op = 17 ∨ ((i.op == 16) = false ∧ (i.op == 17) = false) by
                      by_cases h16 : i.op = 16
                      · exact .inl h16
                      by_cases h17 : i.op = 17
                      · exact .inr (.inl h17)
                      exact .inr (.inr ⟨by simpa using h16, by simpa using h17⟩)) with hc | hc | hc
                    · have hc2 := HOK.out (.inl hc)
                      have g16 : (i.op == 16) = true := by simpa using hc
                      clear hc
                      go_wp2_with (at_builtin; refine wpList_append_own_at _ rfl (.tmp 81) (.tmp 83) _ rfl (w.heap.size + 1) 39 i1 (.agg #[.int .i64 0, .int .i64 0, .int .i64 0, .int .i64 0, .int .i64 0, .int .i64 0]) 6 48 Try.underlying22 IC.out.1 IC.out.2.1 IC.out.2.2.1 IC.out.2.2.2 rfl (by decide) _ _ _ rfl (HO2.out.alloc _) ⟨wc.heap.size, 0, none⟩ 1 1 (cellsI i) rfl rfl (cell_six_new _ _ _) (one_six i) (by unfold maxLen; omega) (by omega) (by simp; omega) ?_; intro v3 w3 hown3 hg3 hn3 hat3)
                      go_roundw
                      case rel => exact ⟨j + 1, by omega, by (show Value.int .i64 _ = _; congr 1), HR.out, by rw [HSN2.out]; exact hown3, (hBW.out.alloc (by omega) _).grown hg3 (by simp; omega) HLT.out⟩
                      case measure => simp [intOf]; omega
                    · have hc2 := HOK.out (.inr hc)
                      have g16 : (i.op == 16) = false := by rw [hc]; rfl
                      have g17 : (i.op == 17) = true := by simpa using hc
                      clear hc
                      go_wp2_with (at_builtin; refine wpList_append_own_at _ rfl (.tmp 81) (.tmp 83) _ rfl (w.heap.size + 1) 39 i1 (.agg #[.int .i64 0, .int .i64 0, .int .i64 0, .int .i64 0, .int .i64 0, .int .i64 0]) 6 48 Try.underlying22 IC.out.1 IC.out.2.1 IC.out.2.2.1 IC.out.2.2.2 rfl (by decide) _ _ _ rfl (HO2.out.alloc _) ⟨wc.heap.size, 0, none⟩ 1 1 (cellsI i) rfl rfl (cell_six_new _ _ _) (one_six i) (by unfold maxLen; omega) (by omega) (by simp; omega) ?_; intro v3 w3 hown3 hg3 hn3 hat3)
                      go_roundw
                      case rel => exact ⟨j + 1, by omega, by (show Value.int .i64 _ = _; congr 1), HR.out, by rw [HSN2.out]; exact hown3, (hBW.out.alloc (by omega) _).grown hg3 (by simp; omega) HLT.out⟩
                      case measure => simp [intOf]; omega
                    · obtain ⟨g16, g17⟩ := hc
                      go_wp2_with (at_builtin; refine wpList_append_own_at _ rfl (.tmp 81) (.tmp 83) _ rfl (w.heap.size + 1) 39 i1 (.agg #[.int .i64 0, .int .i64 0, .int .i64 0, .int .i64 0, .int .i64 0, .int .i64 0]) 6 48 Try.underlying22 IC.out.1 IC.out.2.1 IC.out.2.2.1 IC.out.2.2.2 rfl (by decide) _ _ _ rfl (HO2.out.alloc _) ⟨wc.heap.size, 0, none⟩ 1 1 (cellsI i) rfl rfl (cell_six_new _ _ _) (one_six i) (by unfold maxLen; omega) (by omega) (by simp; omega) ?_; intro v3 w3 hown3 hg3 hn3 hat3)
                      go_roundw
                      case rel => exact ⟨j + 1, by omega, by (show Value.int .i64 _ = _; congr 1), HR.out, by rw [HSN2.out]; exact hown3, (hBW.out.alloc (by omega) _).grown hg3 (by simp; omega) HLT.out⟩
                      case measure => simp [intOf]; omega
        · have hpe' : (pe != 0) = true := by simpa using hpe
          have HR := Lib.hid (HST.out pe (H1.out hpe) hpe)
          clear hpe
          go_wp2_with fail
          refine (HP.out).mono ?_
          rintro e w1 ⟨rfl, hb1⟩
          obtain ⟨kc1, kf1, s1⟩ := bfacts hb1
          (try simp only [World.size_alloc, World.size_setCell, World.size_drew, World.heap_drewN, Nat.add_one_le_iff] at s1)
          (try have z1 : wr.heap.size < w1.heap.size := by omega)
          have B1 : Hid (Below wr.heap.size wr w1) := by (show Below _ _ _); (repeat' first | with_reducible (first | exact Below.refl _ _ | assumption | refine Below.alloc ?_ ?_ _ | refine below_drewN ?_ _ | refine Below.drew ?_ | refine Below.setCell ?_ ?_ _ | refine Below.trans ?_ (Below.mono (by with_reducible assumption) ?_)) | go_size)
          obtain ⟨kd1, kg1, _⟩ := bfacts B1.out
          go_wp2_with fail
          go_ret2
          exact ⟨_, by rw [HR.out.1]; rfl, by rw [HR.out.2]; exact SL.nil_ _ _ _, by (repeat' first | with_reducible (first | exact Below.refl _ _ | assumption | refine Below.alloc ?_ ?_ _ | refine below_drewN ?_ _ | refine Below.drew ?_ | refine Below.setCell ?_ ?_ _ | refine Below.trans ?_ (Below.mono (by with_reducible assumption) ?_)) | go_size)⟩
      · have hje : j = b.length / 8 := by have := H0.out; omega
        have H := Lib.hid (load_end H0.out HZ.out hje)
        have HB8 := Lib.hid (show 8 * j = b.length by have := H0.out; omega)
        have hBw : Below w.heap.size w wr := by have e0 := HB.out; (repeat' first | with_reducible (first | exact Below.refl _ _ | assumption | refine Below.alloc ?_ ?_ _ | refine below_drewN ?_ _ | refine Below.drew ?_ | refine Below.setCell ?_ ?_ _ | refine Below.trans ?_ (Below.mono (by with_reducible assumption) ?_)) | go_size)
        have h8 : b.length ≤ 8 * j := by have := HB8.out; omega
        have HJ := Lib.hid hje
        clear hje
        go_wp2_with fail
        go_ret2
        exact ⟨_, by rw [H.out.1]; rfl, by
          rw [H.out.2]
          have := SL.of_own HO.out
          show SL _ _ _ _ _ _
          rw [Ev.instrs_len, ← HJ.out]
          exact this, hBw⟩
end Go.Proofs.Ytljcgcllhcdleaa
/- What is given to a run, and small laws of its memory. -/
namespace Go.Proofs.Ytljcgcllhcdleaa
open Go.RowKit
set_option linter.unusedSimpArgs false
set_option linter.unusedVariables false
def RGiven (w : World) (B : Nat) (v : Value) (g : Ev.Given) : Prop := ∃ vw va, v = .agg #[vw, va] ∧ RInts w B vw g.words ∧ RLists w B va g.arrays
/-- may right instructions be given that? -/
structure Given (f : Ev.Flat) (g : Ev.Given) : Prop where
  words : (g.words.length : Int) = f.params
  arrays : g.arrays.length = f.arrays.length
  wword : ∀ x ∈ g.words, Ev.Wd x
  aword : ∀ a ∈ g.arrays, ∀ x ∈ a, Ev.Wd x
  small : ∀ a ∈ g.arrays, a.length ≤ 1073741824
  few : g.arrays.length ≤ 1073741824
  slots : f.secret.length ≤ 1073741824
theorem cell_three_new (w : World) (x y z : Value) (t : TypeId) : ∀ j u, [x, y, z][j]? = some u → (w.alloc (.cells #[x, y, z] t)).cell? ((⟨w.heap.size, 0, none⟩ : Addr).add j) = some u := by
  intro j u hj
  match j, hj with
  | 0, hj => simp at hj; subst hj; simp [Addr.add]
  | 1, hj => simp at hj; subst hj; simp [Addr.add]
  | 2, hj => simp at hj; subst hj; simp [Addr.add]
  | j + 3, hj => simp at hj
theorem one_three (a b : Int) {A : Option Addr} (n c : Nat) : ∀ u ∈ [Value.int .i64 a, .int .i64 b, .slice A n c], u.oneCell' = true := fun x hx => by
  simp at hx
  rcases hx with rfl | rfl | rfl <;> rfl
/-- below hi, and at block q, all is as it was -/
def RunS (hi q : Nat) (W w : World) : Prop := Below hi W w ∧ w.heap[q]? = W.heap[q]?
theorem RunS.alloc {hi q : Nat} {W w : World} (h : RunS hi q W w) (h1 : hi ≤ w.heap.size) (h2 : q < w.heap.size) (o : Obj) : RunS hi q W (w.alloc o) := ⟨h.1.alloc h1 o, (heap_alloc_old w o h2).trans h.2⟩
theorem int_size1 : (Try.prog.info? 3).map (·.size) = some 1 := by kernel_rfl
end Go.Proofs.Ytljcgcllhcdleaa
