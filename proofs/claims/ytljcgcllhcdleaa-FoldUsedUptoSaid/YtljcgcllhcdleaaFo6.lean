import Derived.Test.YtljcgcllhcdleaaFo5
import Derived.Test.YtljcgcllhcdleaaFo1
/- Chapter 8, in plain words: what the maker makes, and what comes of it. -/
namespace Ev
structure Mk where
  code : List Instr
  secret : List Bool
def Mk.put (m : Mk) (i : Instr) : Mk := { m with code := m.code ++ [i] }
def Mk.place (m : Mk) (s : Bool) : Mk := { m with secret := m.secret ++ [s] }
def mkNum (m : Mk) (n : Int) : Int × Mk := ((m.secret.length : Int), (m.place false).put ⟨14, m.secret.length, 0, 0, 0, n⟩)
def mkTwo (m : Mk) (op a b : Int) : Int × Mk := ((m.secret.length : Int), (m.place (sec m.secret a || sec m.secret b)).put ⟨op, m.secret.length, a, b, 0, 0⟩)
def mkNot (m : Mk) (a : Int) : Int × Mk := let n := mkNum m 4294967295; mkTwo n.2 5 a n.1
def mkSome (m : Mk) (a : Int) : Int × Mk := let z := mkNum m 0; let l := mkTwo z.2 2 z.1 a; let o := mkTwo l.2 4 a l.1; let t := mkNum o.2 31; mkTwo t.2 7 o.1 t.1
def mkMask (m : Mk) (a : Int) : Int × Mk := let z := mkNum m 0; mkTwo z.2 2 z.1 a
def mkSel (m : Mk) (k b c : Int) : Int × Mk := let p := mkTwo m 3 b k; let n := mkNot p.2 k; let q := mkTwo n.2 3 c n.1; mkTwo q.2 4 p.1 q.1
def mkLess (m : Mk) (a b : Int) : Int × Mk := let na := mkNot m a; let x := mkTwo na.2 3 na.1 b; let o := mkTwo x.2 4 na.1 b; let s := mkTwo o.2 2 a b; let y := mkTwo s.2 3 o.1 s.1; let u := mkTwo y.2 4 x.1 y.1; let t := mkNum u.2 31; mkTwo t.2 7 u.1 t.1
def mkBit (m : Mk) (a n : Int) : Int × Mk := let t := mkNum m n; let s := mkTwo t.2 7 a t.1; let o := mkNum s.2 1; mkTwo o.2 3 s.1 o.1
def mkShStep (op b : Int) (x : Int × Mk) (k : Nat) : Int × Mk := let t := mkNum x.2 ((2 ^ k : Nat) : Int); let v := mkTwo t.2 op x.1 t.1; let bt := mkBit v.2 b k; let mk := mkMask bt.2 bt.1; mkSel mk.2 mk.1 v.1 x.1
def mkShTo (m : Mk) (op a b : Int) : Nat → Int × Mk
  | 0 => (a, m)
  | k + 1 => mkShStep op b (mkShTo m op a b k) k
def mkMulStep (a b : Int) (x : Int × Mk) (k : Nat) : Int × Mk := let t := mkNum x.2 k; let s := mkTwo t.2 6 a t.1; let bt := mkBit s.2 b k; let mk := mkMask bt.2 bt.1; let p := mkTwo mk.2 3 s.1 mk.1; mkTwo p.2 1 x.1 p.1
def mkMulTo (m : Mk) (a b : Int) : Nat → Int × Mk
  | 0 => mkNum m 0
  | k + 1 => mkMulStep a b (mkMulTo m a b k) k
structure Qr where
  q : Int
  r : Int
  m : Mk
/-- one bit of a division: bit k -/
def mkDivStep (a b : Int) (x : Qr) (k : Nat) : Qr :=
  let ov := mkBit x.m x.r 31
  let on := mkNum ov.2 1
  let sh := mkTwo on.2 6 x.r on.1
  let bt := mkBit sh.2 a k
  let re := mkTwo bt.2 4 sh.1 bt.1
  let ls := mkLess re.2 re.1 b
  let o2 := mkNum ls.2 1
  let xr := mkTwo o2.2 5 ls.1 o2.1
  let ft := mkTwo xr.2 4 ov.1 xr.1
  let mk := mkMask ft.2 ft.1
  let an := mkTwo mk.2 3 b mk.1
  let r2 := mkTwo an.2 2 re.1 an.1
  let kk := mkNum r2.2 k
  let s2 := mkTwo kk.2 6 ft.1 kk.1
  let q2 := mkTwo s2.2 4 x.q s2.1
  ⟨q2.1, r2.1, q2.2⟩
/-- bits 31 down to 32 - n -/
def mkDivTo (m : Mk) (a b : Int) : Nat → Qr
  | 0 => let q := mkNum m 0; let r := mkNum q.2 0; ⟨q.1, r.1, r.2⟩
  | n + 1 => mkDivStep a b (mkDivTo m a b n) (31 - n)
/-- what an instruction is made of otherwise: the place, ahead of the move -/
def mkOut (m : Mk) (i : Instr) : Option (Int × Mk) :=
  if i.op = 8 then some (mkMulTo m i.a i.b 32)
  else if i.op = 9 then some ((mkDivTo m i.a i.b 32).q, (mkDivTo m i.a i.b 32).m)
  else if i.op = 10 then some ((mkDivTo m i.a i.b 32).r, (mkDivTo m i.a i.b 32).m)
  else if i.op = 6 ∨ i.op = 7 then some (mkShTo m i.op i.a i.b 5)
  else if i.op = 11 then some (mkLess m i.a i.b)
  else if i.op = 12 then some (let x := mkTwo m 5 i.a i.b; let s := mkSome x.2 x.1; let o := mkNum s.2 1; mkTwo o.2 5 s.1 o.1)
  else if i.op = 13 then some (let s := mkSome m i.a; let k := mkMask s.2 s.1; mkSel k.2 k.1 i.b i.c)
  else none
def mkOther (m : Mk) (i : Instr) : Option Mk := (mkOut m i).map fun x => x.2.put ⟨15, i.d, x.1, 0, 0, 0⟩
def Mk.flat (m : Mk) : Flat := ⟨m.code, m.secret, 0, []⟩
def mkShows (m : Mk) (t : List Int) (i : Instr) : Bool := shows m.flat t i

/-! ### What is run -/
abbrev Env := Int → Int
def upd (e : Env) (d x : Int) : Env := fun p => if p = d then x else e p
def exec1 (e : Env) (i : Instr) : Env := upd e i.d (if i.op = 14 then i.imm else two i.op (e i.a) (e i.b))
def exec (l : List Instr) (e : Env) : Env := l.foldl exec1 e
/-- a place -/
def InP (s : List Bool) (p : Int) : Prop := 0 ≤ p ∧ p < (s.length : Int)
/-- an instruction that the maker makes, but for the last move -/
structure GoodI (s : List Bool) (i : Instr) : Prop where
  d : InP s i.d
  op : i.op = 14 ∧ (0 ≤ i.imm ∧ i.imm ≤ 4294967295) ∨ (1 ≤ i.op ∧ i.op ≤ 7) ∧ InP s i.a ∧ InP s i.b ∧ sec s i.d = (sec s i.a || sec s i.b) ∧ (6 ≤ i.op → sec s i.b = false)
structure Ext (m : Mk) (e : Env) (m' : Mk) (e' : Env) : Prop where
  seg : ∃ l, m'.code = m.code ++ l ∧ exec l e = e' ∧ ∀ i ∈ l, GoodI m'.secret i ∧ (m.secret.length : Int) ≤ i.d
  sec : ∃ l, m'.secret = m.secret ++ l
  old : ∀ p, p < (m.secret.length : Int) → e' p = e p
theorem sec_app {s l : List Bool} {p : Int} (h : InP s p) : sec (s ++ l) p = sec s p := by
  unfold Ev.sec; rw [List.getD_eq_getElem?_getD, List.getD_eq_getElem?_getD, List.getElem?_append_left (by have := h.1; have := h.2; omega)]
theorem InP.app {s : List Bool} (l : List Bool) {p : Int} (h : InP s p) : InP (s ++ l) p := ⟨h.1, by have := h.2; rw [List.length_append]; omega⟩
theorem GoodI.app {s : List Bool} (l : List Bool) {i : Instr} (h : GoodI s i) : GoodI (s ++ l) i := by
  refine ⟨h.d.app l, ?_⟩
  rcases h.op with h1 | ⟨h1, h2, h3, h4, h5⟩
  · exact .inl h1
  · exact .inr ⟨h1, h2.app l, h3.app l, by rw [sec_app h.d, sec_app h2, sec_app h3]; exact h4, fun h6 => by rw [sec_app h3]; exact h5 h6⟩
theorem Ext.refl (m : Mk) (e : Env) : Ext m e m e := ⟨⟨[], by simp, rfl, by simp⟩, ⟨[], by simp⟩, fun _ _ => rfl⟩
theorem Ext.len {m m' : Mk} {e e' : Env} (h : Ext m e m' e') : m.secret.length ≤ m'.secret.length := by obtain ⟨l, h⟩ := h.sec; rw [h, List.length_append]; omega
theorem Ext.inp {m m' : Mk} {e e' : Env} (h : Ext m e m' e') {p : Int} (hp : InP m.secret p) : InP m'.secret p := by obtain ⟨l, h⟩ := h.sec; rw [h]; exact hp.app l
theorem Ext.keep {m m' : Mk} {e e' : Env} (h : Ext m e m' e') {p : Int} (hp : InP m.secret p) : e' p = e p := h.old p hp.2
theorem Ext.trans {m m' m'' : Mk} {e e' e'' : Env} (h : Ext m e m' e') (k : Ext m' e' m'' e'') : Ext m e m'' e'' := by
  obtain ⟨l1, c1, x1, g1⟩ := h.seg
  obtain ⟨l2, c2, x2, g2⟩ := k.seg
  obtain ⟨s2, hs2⟩ := k.sec
  obtain ⟨s1, hs1⟩ := h.sec
  have hl := h.len
  refine ⟨⟨l1 ++ l2, by rw [c2, c1, List.append_assoc], by unfold exec at *; rw [List.foldl_append, x1, x2], fun i hi => ?_⟩, ⟨s1 ++ s2, by rw [hs2, hs1, List.append_assoc]⟩, fun p hp => by rw [k.old p (by omega), h.old p hp]⟩
  rcases List.mem_append.1 hi with hi | hi
  · have := g1 i hi
    rw [hs2]
    exact ⟨this.1.app s2, this.2⟩
  · have := g2 i hi
    exact ⟨this.1, by omega⟩
theorem num_ext (m : Mk) (e : Env) {n : Int} (hn : 0 ≤ n ∧ n ≤ 4294967295) : ∃ e', Ext m e (mkNum m n).2 e' ∧ e' (mkNum m n).1 = n ∧ InP (mkNum m n).2.secret (mkNum m n).1 ∧ Ev.sec (mkNum m n).2.secret (mkNum m n).1 = false := by
  refine ⟨upd e m.secret.length n, ⟨⟨[⟨14, m.secret.length, 0, 0, 0, n⟩], rfl, rfl, fun i hi => ?_⟩, ⟨[false], rfl⟩, fun p hp => ?_⟩, ?_, ?_, ?_⟩
  · simp at hi; subst hi
    exact ⟨⟨⟨by simp, by simp [mkNum, Mk.place, Mk.put]; omega⟩, .inl ⟨rfl, hn⟩⟩, Int.le_refl _⟩
  · unfold upd; rw [if_neg (by omega)]
  · simp [upd, mkNum]
  · exact ⟨by simp [mkNum], by simp [mkNum, Mk.place, Mk.put]; omega⟩
  · simp [mkNum, Mk.place, Mk.put, Ev.sec]
theorem two_ext (m : Mk) (e : Env) {op a b : Int} (ha : InP m.secret a) (hb : InP m.secret b) (ho : 1 ≤ op ∧ op ≤ 7) (h6 : 6 ≤ op → Ev.sec m.secret b = false) :
    ∃ e', Ext m e (mkTwo m op a b).2 e' ∧ e' (mkTwo m op a b).1 = two op (e a) (e b) ∧ InP (mkTwo m op a b).2.secret (mkTwo m op a b).1 := by
  refine ⟨upd e m.secret.length (two op (e a) (e b)), ⟨⟨[⟨op, m.secret.length, a, b, 0, 0⟩], rfl, ?_, fun i hi => ?_⟩, ⟨[Ev.sec m.secret a || Ev.sec m.secret b], rfl⟩, fun p hp => ?_⟩, ?_, ?_⟩
  · simp only [exec, List.foldl_cons, List.foldl_nil, exec1]; rw [if_neg (by omega)]
  · simp at hi; subst hi
    refine ⟨⟨⟨by simp, by simp [mkTwo, Mk.place, Mk.put]; omega⟩, .inr ⟨ho, ha.app _, hb.app _, ?_, fun h => ?_⟩⟩, Int.le_refl _⟩
    · show Ev.sec (m.secret ++ [_]) _ = (Ev.sec (m.secret ++ [_]) a || Ev.sec (m.secret ++ [_]) b)
      rw [sec_app ha, sec_app hb]
      simp [Ev.sec]
    · show Ev.sec (m.secret ++ [_]) b = false
      rw [sec_app hb]; exact h6 h
  · unfold upd; rw [if_neg (by omega)]
  · simp [upd, mkTwo]
  · exact ⟨by simp [mkTwo], by simp [mkTwo, Mk.place, Mk.put]; omega⟩

/-! ### The words -/
/-- the place p holds the word x -/
def Holds (m : Mk) (e : Env) (p : Int) (x : Nat) : Prop := InP m.secret p ∧ e p = (x : Int) ∧ x < 4294967296
theorem Holds.ext {m m' : Mk} {e e' : Env} {p : Int} {x : Nat} (h : Holds m e p x) (k : Ext m e m' e') : Holds m' e' p x := ⟨k.inp h.1, by rw [k.keep h.1]; exact h.2.1, h.2.2⟩
theorem low_of {x : Nat} (h : x < 4294967296) : low (x : Int) = x := by unfold low; omega
theorem num_holds (m : Mk) (e : Env) (n : Nat) (hn : n < 4294967296) : ∃ e', Ext m e (mkNum m n).2 e' ∧ Holds (mkNum m n).2 e' (mkNum m n).1 n ∧ Ev.sec (mkNum m n).2.secret (mkNum m n).1 = false := by
  obtain ⟨e', h1, h2, h3, h4⟩ := num_ext m e (n := (n : Int)) ⟨by omega, by omega⟩
  exact ⟨e', h1, ⟨h3, h2, hn⟩, h4⟩
theorem two_holds (m : Mk) (e : Env) {op a b : Int} {x y : Nat} (ha : Holds m e a x) (hb : Holds m e b y) (z : Nat) (hz : twoN op x y = z) (ho : 1 ≤ op ∧ op ≤ 7) (h6 : 6 ≤ op → Ev.sec m.secret b = false) :
    ∃ e', Ext m e (mkTwo m op a b).2 e' ∧ Holds (mkTwo m op a b).2 e' (mkTwo m op a b).1 z := by
  obtain ⟨e', h1, h2, h3⟩ := two_ext m e ha.1 hb.1 ho h6
  have h4 : two op (e a) (e b) = (z : Int) := by unfold two; rw [ha.2.1, hb.2.1, low_of ha.2.2, low_of hb.2.2, hz]
  have h5 := two_wd op (e a) (e b)
  rw [h4] at h5
  exact ⟨e', h1, h3, h2.trans h4, by have := h5.2; omega⟩
theorem two1 (x y : Nat) : twoN 1 x y = wadd x y := by unfold twoN; rw [if_pos rfl]
theorem two2 (x y : Nat) : twoN 2 x y = wsub x y := by unfold twoN; rw [if_neg (by decide), if_pos rfl]
theorem two3 (x y : Nat) : twoN 3 x y = x &&& y := by unfold twoN; rw [if_neg (by decide), if_neg (by decide), if_pos rfl]
theorem two4 (x y : Nat) : twoN 4 x y = x ||| y := by unfold twoN; rw [if_neg (by decide), if_neg (by decide), if_neg (by decide), if_pos rfl]
theorem two5 (x y : Nat) : twoN 5 x y = x ^^^ y := by unfold twoN; rw [if_neg (by decide), if_neg (by decide), if_neg (by decide), if_neg (by decide), if_pos rfl]
theorem two6 (x y : Nat) : twoN 6 x y = wshl x (y % 32) := by unfold twoN; rw [if_neg (by decide), if_neg (by decide), if_neg (by decide), if_neg (by decide), if_neg (by decide), if_pos rfl]
theorem two7 (x y : Nat) : twoN 7 x y = wshr x (y % 32) := by unfold twoN; rw [if_neg (by decide), if_neg (by decide), if_neg (by decide), if_neg (by decide), if_neg (by decide), if_neg (by decide), if_pos rfl]
theorem not_holds (m : Mk) (e : Env) {a : Int} {x : Nat} (ha : Holds m e a x) : ∃ e', Ext m e (mkNot m a).2 e' ∧ Holds (mkNot m a).2 e' (mkNot m a).1 (wnot x) := by
  obtain ⟨e1, h1, k1, _⟩ := num_holds m e 4294967295 (by decide)
  obtain ⟨e2, h2, k2⟩ := two_holds _ e1 (op := 5) (ha.ext h1) k1 (wnot x) (two5 _ _) (by decide) (fun h => absurd h (by decide))
  exact ⟨e2, h1.trans h2, k2⟩
theorem shr31_holds {o : Nat} : twoN 7 o 31 = o >>> 31 := by rw [two7]; unfold wshr; rw [Nat.shiftRight_eq_div_pow]
theorem some_word {x z o : Nat} (hx : x < 4294967296) (hz : z = wsub 0 x) (ho : o = x ||| z) : twoN 7 o 31 = if x = 0 then 0 else 1 := by
  rw [shr31_holds, ho, hz]; exact some_bits hx
theorem some_holds (m : Mk) (e : Env) {a : Int} {x : Nat} (ha : Holds m e a x) : ∃ e', Ext m e (mkSome m a).2 e' ∧ Holds (mkSome m a).2 e' (mkSome m a).1 (if x = 0 then 0 else 1) := by
  obtain ⟨e1, h1, k1, _⟩ := num_holds m e 0 (by decide)
  obtain ⟨z2, hz2⟩ : ∃ z, z = wsub 0 x := ⟨_, rfl⟩
  obtain ⟨e2, h2, k2⟩ := two_holds _ e1 (op := 2) k1 (ha.ext h1) z2 (by rw [hz2]; exact two2 0 x) (by decide) (fun h => absurd h (by decide))
  have a2 := (ha.ext h1).ext h2
  obtain ⟨o3, ho3⟩ : ∃ z, z = x ||| z2 := ⟨_, rfl⟩
  obtain ⟨e3, h3, k3⟩ := two_holds _ e2 (op := 4) a2 k2 o3 (by rw [ho3]; exact two4 _ _) (by decide) (fun h => absurd h (by decide))
  obtain ⟨e4, h4, k4, p4⟩ := num_holds _ e3 31 (by decide)
  have hw := some_word ha.2.2 hz2 ho3
  generalize (if x = 0 then 0 else 1) = r at *
  obtain ⟨e5, h5, k5⟩ := two_holds _ e4 (op := 7) (k3.ext h4) k4 r hw (by decide) (fun _ => p4)
  exact ⟨e5, (((h1.trans h2).trans h3).trans h4).trans h5, k5⟩
theorem mask_holds (m : Mk) (e : Env) {a : Int} {x : Nat} (ha : Holds m e a x) : ∃ e', Ext m e (mkMask m a).2 e' ∧ Holds (mkMask m a).2 e' (mkMask m a).1 (wsub 0 x) := by
  obtain ⟨e1, h1, k1, _⟩ := num_holds m e 0 (by decide)
  obtain ⟨e2, h2, k2⟩ := two_holds _ e1 (op := 2) k1 (ha.ext h1) (wsub 0 x) (two2 _ _) (by decide) (fun h => absurd h (by decide))
  exact ⟨e2, h1.trans h2, k2⟩
theorem sel_holds (m : Mk) (e : Env) {k b c : Int} {z x y : Nat} (hk : Holds m e k z) (hb : Holds m e b x) (hc : Holds m e c y) : ∃ e', Ext m e (mkSel m k b c).2 e' ∧ Holds (mkSel m k b c).2 e' (mkSel m k b c).1 ((x &&& z) ||| (y &&& wnot z)) := by
  obtain ⟨e1, h1, k1⟩ := two_holds m e (op := 3) hb hk _ (two3 _ _) (by decide) (fun h => absurd h (by decide))
  obtain ⟨e2, h2, k2⟩ := not_holds _ e1 (hk.ext h1)
  obtain ⟨e3, h3, k3⟩ := two_holds _ e2 (op := 3) ((hc.ext h1).ext h2) k2 _ (two3 _ _) (by decide) (fun h => absurd h (by decide))
  obtain ⟨e4, h4, k4⟩ := two_holds _ e3 (op := 4) ((k1.ext h2).ext h3) k3 ((x &&& z) ||| (y &&& wnot z)) (two4 _ _) (by decide) (fun h => absurd h (by decide))
  exact ⟨e4, ((h1.trans h2).trans h3).trans h4, k4⟩
theorem less_holds (m : Mk) (e : Env) {a b : Int} {x y : Nat} (ha : Holds m e a x) (hb : Holds m e b y) : ∃ e', Ext m e (mkLess m a b).2 e' ∧ Holds (mkLess m a b).2 e' (mkLess m a b).1 (if x < y then 1 else 0) := by
  obtain ⟨e1, h1, k1⟩ := not_holds m e ha
  have a1 := ha.ext h1
  have b1 := hb.ext h1
  obtain ⟨e2, h2, k2⟩ := two_holds _ e1 (op := 3) k1 b1 _ (two3 _ _) (by decide) (fun h => absurd h (by decide))
  obtain ⟨e3, h3, k3⟩ := two_holds _ e2 (op := 4) (k1.ext h2) (b1.ext h2) _ (two4 _ _) (by decide) (fun h => absurd h (by decide))
  obtain ⟨e4, h4, k4⟩ := two_holds _ e3 (op := 2) ((a1.ext h2).ext h3) ((b1.ext h2).ext h3) _ (two2 _ _) (by decide) (fun h => absurd h (by decide))
  obtain ⟨e5, h5, k5⟩ := two_holds _ e4 (op := 3) (k3.ext h4) k4 _ (two3 _ _) (by decide) (fun h => absurd h (by decide))
  obtain ⟨e6, h6, k6⟩ := two_holds _ e5 (op := 4) (((k2.ext h3).ext h4).ext h5) k5 _ (two4 _ _) (by decide) (fun h => absurd h (by decide))
  obtain ⟨e7, h7, k7, p7⟩ := num_holds _ e6 31 (by decide)
  obtain ⟨e8, h8, k8⟩ := two_holds _ e7 (op := 7) (k6.ext h7) k7 (if x < y then 1 else 0) (by rw [shr31_holds]; exact less_bits ha.2.2 hb.2.2) (by decide) (fun _ => p7)
  exact ⟨e8, ((((((h1.trans h2).trans h3).trans h4).trans h5).trans h6).trans h7).trans h8, k8⟩
theorem bit_holds (m : Mk) (e : Env) {a : Int} {x : Nat} (ha : Holds m e a x) (n : Nat) (hn : n < 32) : ∃ e', Ext m e (mkBit m a n).2 e' ∧ Holds (mkBit m a n).2 e' (mkBit m a n).1 (bitN x n) := by
  obtain ⟨e1, h1, k1, p1⟩ := num_holds m e n (by omega)
  obtain ⟨e2, h2, k2⟩ := two_holds _ e1 (op := 7) (ha.ext h1) k1 (x >>> n) (by rw [two7]; unfold wshr; rw [Nat.shiftRight_eq_div_pow, Nat.mod_eq_of_lt hn]) (by decide) (fun _ => p1)
  obtain ⟨e3, h3, k3, _⟩ := num_holds _ e2 1 (by decide)
  obtain ⟨e4, h4, k4⟩ := two_holds _ e3 (op := 3) (k2.ext h3) k3 (bitN x n) bit_of (by decide) (fun h => absurd h (by decide))
  exact ⟨e4, ((h1.trans h2).trans h3).trans h4, k4⟩
theorem mask_if (p : Prop) [Decidable p] : wsub 0 (if p then 1 else 0) = if p then 4294967295 else 0 := by split <;> rfl
theorem shstep_holds (m : Mk) (e : Env) {op a b : Int} {x y : Nat} (ho : op = 6 ∨ op = 7) (ha : Holds m e a x) (hb : Holds m e b y) (k : Nat) (hk : k < 5) : ∃ e', Ext m e (mkShStep op b (a, m) k).2 e' ∧ Holds (mkShStep op b (a, m) k).2 e' (mkShStep op b (a, m) k).1 (shStep (decide (op = 6)) y x k) := by
  have hp : 2 ^ k < 32 := by rcases (show k = 0 ∨ k = 1 ∨ k = 2 ∨ k = 3 ∨ k = 4 by omega) with rfl | rfl | rfl | rfl | rfl <;> decide
  obtain ⟨e1, h1, k1, p1⟩ := num_holds m e (2 ^ k) (by omega)
  obtain ⟨e2, h2, k2⟩ := two_holds _ e1 (op := op) (ha.ext h1) k1 (if op = 6 then wshl x (2 ^ k) else wshr x (2 ^ k)) (by rcases ho with rfl | rfl <;> simp [two6, two7, Nat.mod_eq_of_lt hp]) (by omega) (fun _ => p1)
  have a2 := (ha.ext h1).ext h2
  have b2 := (hb.ext h1).ext h2
  obtain ⟨e3, h3, k3⟩ := bit_holds _ e2 b2 k (by omega)
  obtain ⟨e4, h4, k4⟩ := mask_holds _ e3 k3
  obtain ⟨e5, h5, k5⟩ := sel_holds _ e4 k4 ((k2.ext h3).ext h4) ((a2.ext h3).ext h4)
  refine ⟨e5, (((h1.trans h2).trans h3).trans h4).trans h5, ?_⟩
  have e0 : shStep (decide (op = 6)) y x k = (((if op = 6 then wshl x (2 ^ k) else wshr x (2 ^ k)) &&& wsub 0 (bitN y k)) ||| (x &&& wnot (wsub 0 (bitN y k)))) := by
    have := sel_bits k2.2.2 ha.2.2 (y.testBit k)
    unfold bitN
    rw [this]
    unfold shStep
    simp
  rw [e0]
  exact k5
theorem shto_holds (m : Mk) (e : Env) {op a b : Int} {x y : Nat} (ho : op = 6 ∨ op = 7) (ha : Holds m e a x) (hb : Holds m e b y) : ∀ n, n ≤ 5 → ∃ e', Ext m e (mkShTo m op a b n).2 e' ∧ Holds (mkShTo m op a b n).2 e' (mkShTo m op a b n).1 ((List.range n).foldl (shStep (decide (op = 6)) y) x)
  | 0, _ => ⟨e, Ext.refl _ _, ha⟩
  | n + 1, h => by
    obtain ⟨e1, h1, k1⟩ := shto_holds m e ho ha hb n (by omega)
    obtain ⟨e2, h2, k2⟩ := shstep_holds _ e1 ho k1 (hb.ext h1) n (by omega)
    refine ⟨e2, h1.trans h2, ?_⟩
    rw [List.range_succ, List.foldl_append]
    exact k2
theorem mulstep_holds (m : Mk) (e : Env) {a b s : Int} {x y z : Nat} (hs : Holds m e s z) (ha : Holds m e a x) (hb : Holds m e b y) (k : Nat) (hk : k < 32) : ∃ e', Ext m e (mkMulStep a b (s, m) k).2 e' ∧ Holds (mkMulStep a b (s, m) k).2 e' (mkMulStep a b (s, m) k).1 (wadd z (wshl x k &&& wsub 0 (bitN y k))) := by
  obtain ⟨e1, h1, k1, p1⟩ := num_holds m e k (by omega)
  obtain ⟨e2, h2, k2⟩ := two_holds _ e1 (op := 6) (ha.ext h1) k1 (wshl x k) (by rw [two6, Nat.mod_eq_of_lt hk]) (by decide) (fun _ => p1)
  obtain ⟨e3, h3, k3⟩ := bit_holds _ e2 ((hb.ext h1).ext h2) k hk
  obtain ⟨e4, h4, k4⟩ := mask_holds _ e3 k3
  obtain ⟨e5, h5, k5⟩ := two_holds _ e4 (op := 3) ((k2.ext h3).ext h4) k4 _ (two3 _ _) (by decide) (fun h => absurd h (by decide))
  obtain ⟨e6, h6, k6⟩ := two_holds _ e5 (op := 1) (((((hs.ext h1).ext h2).ext h3).ext h4).ext h5) k5 (wadd z (wshl x k &&& wsub 0 (bitN y k))) (two1 _ _) (by decide) (fun h => absurd h (by decide))
  exact ⟨e6, ((((h1.trans h2).trans h3).trans h4).trans h5).trans h6, k6⟩
theorem multo_holds (m : Mk) (e : Env) {a b : Int} {x y : Nat} (ha : Holds m e a x) (hb : Holds m e b y) : ∀ n, n ≤ 32 → ∃ e', Ext m e (mkMulTo m a b n).2 e' ∧ Holds (mkMulTo m a b n).2 e' (mkMulTo m a b n).1 (mulTo x y n)
  | 0, _ => by
    obtain ⟨e1, h1, k1, _⟩ := num_holds m e 0 (by decide)
    exact ⟨e1, h1, k1⟩
  | n + 1, h => by
    obtain ⟨e1, h1, k1⟩ := multo_holds m e ha hb n (by omega)
    obtain ⟨e2, h2, k2⟩ := mulstep_holds _ e1 k1 (ha.ext h1) (hb.ext h1) n (by omega)
    refine ⟨e2, h1.trans h2, ?_⟩
    have e0 : mulTo x y (n + 1) = wadd (mulTo x y n) (wshl x n &&& wsub 0 (bitN y n)) := by
      show wadd (mulTo x y n) (if y.testBit n then wshl x n else 0) = _
      have hlt : wshl x n < 4294967296 := Nat.mod_lt _ (by decide)
      have := sel_bits hlt (show (0 : Nat) < 4294967296 by decide) (y.testBit n)
      unfold bitN
      rw [← this, Nat.zero_and, Nat.or_zero]
    rw [e0]
    exact k2
/-- quot, and rest -/
theorem divstep_holds (a b : Int) (X : Qr) (e : Env) {x y q r : Nat} (ha : Holds X.m e a x) (hb : Holds X.m e b y) (hq : Holds X.m e X.q q) (hr : Holds X.m e X.r r) (k : Nat) (hk : k < 32) :
    ∃ e', Ext X.m e (mkDivStep a b X k).m e' ∧ Holds (mkDivStep a b X k).m e' (mkDivStep a b X k).q (divStep x y (q, r) k).1 ∧ Holds (mkDivStep a b X k).m e' (mkDivStep a b X k).r (divStep x y (q, r) k).2 := by
  obtain ⟨e1, h1, k1⟩ := bit_holds X.m e hr 31 (by decide)
  obtain ⟨e2, h2, k2, p2⟩ := num_holds _ e1 1 (by decide)
  obtain ⟨z3, hz3⟩ : ∃ z, z = wshl r 1 := ⟨_, rfl⟩
  have r2 := (hr.ext h1).ext h2
  obtain ⟨e3, h3, k3⟩ := two_holds _ e2 (op := 6) r2 k2 z3 (by rw [hz3]; exact two6 _ _) (by decide) (fun _ => p2)
  have a3 := ((ha.ext h1).ext h2).ext h3
  have b3 := ((hb.ext h1).ext h2).ext h3
  have q3 := ((hq.ext h1).ext h2).ext h3
  have o3 := (k1.ext h2).ext h3
  obtain ⟨e4, h4, k4⟩ := bit_holds _ e3 a3 k hk
  obtain ⟨z5, hz5⟩ : ∃ z, z = z3 ||| bitN x k := ⟨_, rfl⟩
  obtain ⟨e5, h5, k5⟩ := two_holds _ e4 (op := 4) (k3.ext h4) k4 z5 (by rw [hz5]; exact two4 _ _) (by decide) (fun h => absurd h (by decide))
  have b5 := (b3.ext h4).ext h5
  have q5 := (q3.ext h4).ext h5
  have o5 := (o3.ext h4).ext h5
  obtain ⟨e6, h6, k6⟩ := less_holds _ e5 k5 b5
  obtain ⟨z6, hz6⟩ : ∃ z, z = (if z5 < y then 1 else 0) := ⟨_, rfl⟩
  rw [← hz6] at k6
  obtain ⟨e7, h7, k7, _⟩ := num_holds _ e6 1 (by decide)
  obtain ⟨z8, hz8⟩ : ∃ z, z = z6 ^^^ 1 := ⟨_, rfl⟩
  obtain ⟨e8, h8, k8⟩ := two_holds _ e7 (op := 5) (k6.ext h7) k7 z8 (by rw [hz8]; exact two5 _ _) (by decide) (fun h => absurd h (by decide))
  have b8 := ((b5.ext h6).ext h7).ext h8
  have q8 := ((q5.ext h6).ext h7).ext h8
  have o8 := ((o5.ext h6).ext h7).ext h8
  have r8 := ((k5.ext h6).ext h7).ext h8
  obtain ⟨z9, hz9⟩ : ∃ z, z = bitN r 31 ||| z8 := ⟨_, rfl⟩
  obtain ⟨e9, h9, k9⟩ := two_holds _ e8 (op := 4) o8 k8 z9 (by rw [hz9]; exact two4 _ _) (by decide) (fun h => absurd h (by decide))
  obtain ⟨e10, h10, k10⟩ := mask_holds _ e9 k9
  obtain ⟨z10, hz10⟩ : ∃ z, z = wsub 0 z9 := ⟨_, rfl⟩
  rw [← hz10] at k10
  obtain ⟨z11, hz11⟩ : ∃ z, z = y &&& z10 := ⟨_, rfl⟩
  obtain ⟨e11, h11, k11⟩ := two_holds _ e10 (op := 3) ((b8.ext h9).ext h10) k10 z11 (by rw [hz11]; exact two3 _ _) (by decide) (fun h => absurd h (by decide))
  obtain ⟨z12, hz12⟩ : ∃ z, z = wsub z5 z11 := ⟨_, rfl⟩
  obtain ⟨e12, h12, k12⟩ := two_holds _ e11 (op := 2) (((r8.ext h9).ext h10).ext h11) k11 z12 (by rw [hz12]; exact two2 _ _) (by decide) (fun h => absurd h (by decide))
  obtain ⟨e13, h13, k13, p13⟩ := num_holds _ e12 k (by omega)
  obtain ⟨z14, hz14⟩ : ∃ z, z = wshl z9 k := ⟨_, rfl⟩
  obtain ⟨e14, h14, k14⟩ := two_holds _ e13 (op := 6) ((((k9.ext h10).ext h11).ext h12).ext h13) k13 z14 (by rw [hz14]; exact (two6 _ _).trans (by rw [Nat.mod_eq_of_lt hk])) (by decide) (fun _ => p13)
  obtain ⟨z15, hz15⟩ : ∃ z, z = q ||| z14 := ⟨_, rfl⟩
  obtain ⟨e15, h15, k15⟩ := two_holds _ e14 (op := 4) ((((((q8.ext h9).ext h10).ext h11).ext h12).ext h13).ext h14) k14 z15 (by rw [hz15]; exact two4 _ _) (by decide) (fun h => absurd h (by decide))
  have hr15 := ((k12.ext h13).ext h14).ext h15
  have E := ((((((((((((((h1.trans h2).trans h3).trans h4).trans h5).trans h6).trans h7).trans h8).trans h9).trans h10).trans h11).trans h12).trans h13).trans h14).trans h15)
  have n9 : z9 = 0 ∨ z9 = 1 := by
    have c1 := bitN_le r 31
    have c2 : z6 = 0 ∨ z6 = 1 := by rw [hz6]; split <;> simp
    have c3 : z8 = 0 ∨ z8 = 1 := by rw [hz8]; rcases c2 with h | h <;> rw [h] <;> decide
    rcases (show bitN r 31 = 0 ∨ bitN r 31 = 1 by omega) with h | h <;> rcases c3 with h' | h' <;> rw [hz9, h, h'] <;> decide
  have f1 : (divStep x y (q, r) k).1 = z15 := by rw [hz15, hz14, hz9, hz8, hz6, hz5, hz3]; rfl
  have f2 : (divStep x y (q, r) k).2 = z12 := by
    have g : z11 = if z9 = 1 then y else 0 := by
      rw [hz11, hz10]
      rcases n9 with h | h
      · rw [h]; simp [wsub]
      · rw [h, if_pos rfl]
        have : wsub 0 1 = 4294967295 := by decide
        rw [this, and_ones hb.2.2]
    rw [hz12, g, hz9, hz8, hz6, hz5, hz3]; rfl
  refine ⟨e15, E, ?_, ?_⟩
  · rw [f1]; exact k15
  · rw [f2]; exact hr15
end Ev
/- Chapter 8, in plain words: what an instruction is made of otherwise is worth the same; what legal.Legal makes. -/
namespace Ev
theorem divto_holds (m : Mk) (e : Env) {a b : Int} {x y : Nat} (ha : Holds m e a x) (hb : Holds m e b y) : ∀ n, n ≤ 32 → ∃ e', Ext m e (mkDivTo m a b n).m e' ∧ Holds (mkDivTo m a b n).m e' (mkDivTo m a b n).q (divTo x y n).1 ∧ Holds (mkDivTo m a b n).m e' (mkDivTo m a b n).r (divTo x y n).2
  | 0, _ => by
    obtain ⟨e1, h1, k1, _⟩ := num_holds m e 0 (by decide)
    obtain ⟨e2, h2, k2, _⟩ := num_holds _ e1 0 (by decide)
    exact ⟨e2, h1.trans h2, k1.ext h2, k2⟩
  | n + 1, h => by
    obtain ⟨e1, h1, k1, k2⟩ := divto_holds m e ha hb n (by omega)
    obtain ⟨e2, h2, k3, k4⟩ := divstep_holds a b (mkDivTo m a b n) e1 (ha.ext h1) (hb.ext h1) k1 k2 (31 - n) (by omega)
    exact ⟨e2, h1.trans h2, k3, k4⟩
/-- what an instruction makes of words -/
def opVal (i : Instr) (e : Env) : Int := if i.op ≤ 12 then two i.op (e i.a) (e i.b) else sel (e i.a) (e i.b) (e i.c)
theorem twoN6 (x y : Nat) : twoN 6 x y = wshl x (y % 32) := two6 x y
theorem twoN8 (x y : Nat) : twoN 8 x y = x * y % 4294967296 := by unfold twoN; rw [if_neg (by decide), if_neg (by decide), if_neg (by decide), if_neg (by decide), if_neg (by decide), if_neg (by decide), if_neg (by decide), if_pos rfl]
theorem twoN9 (x y : Nat) : twoN 9 x y = if y = 0 then 4294967295 else x / y := by unfold twoN; rw [if_neg (by decide), if_neg (by decide), if_neg (by decide), if_neg (by decide), if_neg (by decide), if_neg (by decide), if_neg (by decide), if_neg (by decide), if_pos rfl]
theorem twoN10 (x y : Nat) : twoN 10 x y = if y = 0 then x else x % y := by unfold twoN; rw [if_neg (by decide), if_neg (by decide), if_neg (by decide), if_neg (by decide), if_neg (by decide), if_neg (by decide), if_neg (by decide), if_neg (by decide), if_neg (by decide), if_pos rfl]
theorem twoN11 (x y : Nat) : twoN 11 x y = if x < y then 1 else 0 := by unfold twoN; rw [if_neg (by decide), if_neg (by decide), if_neg (by decide), if_neg (by decide), if_neg (by decide), if_neg (by decide), if_neg (by decide), if_neg (by decide), if_neg (by decide), if_neg (by decide), if_pos rfl]
theorem twoN12 (x y : Nat) : twoN 12 x y = if x = y then 1 else 0 := by unfold twoN; rw [if_neg (by decide), if_neg (by decide), if_neg (by decide), if_neg (by decide), if_neg (by decide), if_neg (by decide), if_neg (by decide), if_neg (by decide), if_neg (by decide), if_neg (by decide), if_neg (by decide), if_pos rfl]
theorem xor_zero_iff {x y : Nat} : x ^^^ y = 0 ↔ x = y := by
  constructor
  · intro h
    apply Nat.eq_of_testBit_eq
    intro k
    have := congrArg (Nat.testBit · k) h
    simp [Nat.testBit_xor] at this
    exact this
  · rintro rfl; exact Nat.xor_self x
theorem div_words {x y : Nat} (hx : x < 4294967296) (hy : y < 4294967296) : divTo x y 32 = (twoN 9 x y, twoN 10 x y) := by
  rw [twoN9, twoN10]
  by_cases h : y = 0
  · subst h; rw [if_pos rfl, if_pos rfl]; exact div_bits_zero hx
  · rw [if_neg h, if_neg h]; exact div_bits hx hy (by omega)
theorem out_holds (m : Mk) (e : Env) {i : Instr} {r : Int × Mk} (h : mkOut m i = some r) {x y z : Nat} (ha : Holds m e i.a x) (hb : Holds m e i.b y) (hc : i.op = 13 → Holds m e i.c z) :
    ∃ e', Ext m e r.2 e' ∧ Holds r.2 e' r.1 (if i.op = 13 then (if x = 0 then z else y) else twoN i.op x y) := by
  unfold mkOut at h
  by_cases c8 : i.op = 8
  · rw [if_pos c8] at h; injection h with h; subst h
    rw [if_neg (by omega), c8, twoN8]
    obtain ⟨e1, h1, k1⟩ := multo_holds m e ha hb 32 (Nat.le_refl _)
    rw [mul_bits hb.2.2] at k1
    exact ⟨e1, h1, k1⟩
  rw [if_neg c8] at h
  by_cases c9 : i.op = 9
  · rw [if_pos c9] at h; injection h with h; subst h
    rw [if_neg (by omega), c9]
    obtain ⟨e1, h1, k1, _⟩ := divto_holds m e ha hb 32 (Nat.le_refl _)
    rw [div_words ha.2.2 hb.2.2] at k1
    exact ⟨e1, h1, k1⟩
  rw [if_neg c9] at h
  by_cases c10 : i.op = 10
  · rw [if_pos c10] at h; injection h with h; subst h
    rw [if_neg (by omega), c10]
    obtain ⟨e1, h1, _, k1⟩ := divto_holds m e ha hb 32 (Nat.le_refl _)
    rw [div_words ha.2.2 hb.2.2] at k1
    exact ⟨e1, h1, k1⟩
  rw [if_neg c10] at h
  by_cases c6 : i.op = 6 ∨ i.op = 7
  · rw [if_pos c6] at h; injection h with h; subst h
    rw [if_neg (by omega)]
    obtain ⟨e1, h1, k1⟩ := shto_holds m e c6 ha hb 5 (Nat.le_refl _)
    have e0 : (List.range 5).foldl (shStep (decide (i.op = 6)) y) x = twoN i.op x y := by
      have := shift_bits (left := decide (i.op = 6)) (b := y) ha.2.2
      show shStep (decide (i.op = 6)) y (shStep (decide (i.op = 6)) y (shStep (decide (i.op = 6)) y (shStep (decide (i.op = 6)) y (shStep (decide (i.op = 6)) y x 0) 1) 2) 3) 4 = _
      rw [this]
      rcases c6 with c | c
      · rw [c, two6]; rfl
      · rw [c, two7]; rfl
    rw [e0] at k1
    exact ⟨e1, h1, k1⟩
  rw [if_neg c6] at h
  by_cases c11 : i.op = 11
  · rw [if_pos c11] at h; injection h with h; subst h
    rw [if_neg (by omega), c11, twoN11]
    exact less_holds m e ha hb
  rw [if_neg c11] at h
  by_cases c12 : i.op = 12
  · rw [if_pos c12] at h; injection h with h; subst h
    rw [if_neg (by omega), c12, twoN12]
    obtain ⟨z1, hz1⟩ : ∃ z, z = x ^^^ y := ⟨_, rfl⟩
    obtain ⟨e1, h1, k1⟩ := two_holds m e (op := 5) ha hb z1 (by rw [hz1]; exact two5 _ _) (by decide) (fun h => absurd h (by decide))
    obtain ⟨e2, h2, k2⟩ := some_holds _ e1 k1
    obtain ⟨e3, h3, k3, _⟩ := num_holds (mkSome (mkTwo m 5 i.a i.b).2 (mkTwo m 5 i.a i.b).1).2 e2 1 (by decide)
    have hv : twoN 5 (if z1 = 0 then 0 else 1) 1 = if x = y then 1 else 0 := by
      rw [two5, hz1]
      by_cases hxy : x = y
      · rw [if_pos (xor_zero_iff.2 hxy), if_pos hxy]; rfl
      · rw [if_neg (fun h => hxy (xor_zero_iff.1 h)), if_neg hxy]; rfl
    obtain ⟨e4, h4, k4⟩ := two_holds _ e3 (op := 5) (k2.ext h3) k3 _ hv (by decide) (fun h => absurd h (by decide))
    exact ⟨e4, ((h1.trans h2).trans h3).trans h4, k4⟩
  rw [if_neg c12] at h
  by_cases c13 : i.op = 13
  · rw [if_pos c13] at h; injection h with h; subst h
    rw [if_pos c13]
    obtain ⟨e1, h1, k1⟩ := some_holds m e ha
    obtain ⟨e2, h2, k2⟩ := mask_holds _ e1 k1
    obtain ⟨e3, h3, k3⟩ := sel_holds _ e2 k2 ((hb.ext h1).ext h2) (((hc c13).ext h1).ext h2)
    have hv := sel_bits hb.2.2 (hc c13).2.2 (!decide (x = 0))
    have hv2 : (if x = 0 then z else y) = ((y &&& wsub 0 (if x = 0 then 0 else 1)) ||| (z &&& wnot (wsub 0 (if x = 0 then 0 else 1)))) := by
      by_cases hx : x = 0
      · simp only [hx, if_true, decide_true, Bool.not_true] at hv ⊢; exact hv.symm
      · simp only [hx, if_false, decide_false, Bool.not_false, if_true] at hv ⊢; exact hv.symm
    rw [hv2]
    exact ⟨e3, (h1.trans h2).trans h3, k3⟩
  · rw [if_neg c13] at h; cases h
theorem out_none {m : Mk} {i : Instr} (h : mkOut m i = none) : ¬ (6 ≤ i.op ∧ i.op ≤ 13) := by
  intro hop
  unfold mkOut at h
  by_cases c8 : i.op = 8
  · rw [if_pos c8] at h; cases h
  rw [if_neg c8] at h
  by_cases c9 : i.op = 9
  · rw [if_pos c9] at h; cases h
  rw [if_neg c9] at h
  by_cases c10 : i.op = 10
  · rw [if_pos c10] at h; cases h
  rw [if_neg c10] at h
  by_cases c6 : i.op = 6 ∨ i.op = 7
  · rw [if_pos c6] at h; cases h
  rw [if_neg c6] at h
  by_cases c11 : i.op = 11
  · rw [if_pos c11] at h; cases h
  rw [if_neg c11] at h
  by_cases c12 : i.op = 12
  · rw [if_pos c12] at h; cases h
  rw [if_neg c12] at h
  rw [if_pos (by omega)] at h; cases h
theorem out_some {m : Mk} {i : Instr} {r : Int × Mk} (h : mkOut m i = some r) : 6 ≤ i.op ∧ i.op ≤ 13 := by
  unfold mkOut at h
  by_cases c8 : i.op = 8
  · omega
  rw [if_neg c8] at h
  by_cases c9 : i.op = 9
  · omega
  rw [if_neg c9] at h
  by_cases c10 : i.op = 10
  · omega
  rw [if_neg c10] at h
  by_cases c6 : i.op = 6 ∨ i.op = 7
  · omega
  rw [if_neg c6] at h
  by_cases c11 : i.op = 11
  · omega
  rw [if_neg c11] at h
  by_cases c12 : i.op = 12
  · omega
  rw [if_neg c12] at h
  by_cases c13 : i.op = 13
  · omega
  rw [if_neg c13] at h; cases h
/-! ### How many -/
theorem num_code (m : Mk) (n : Int) : (mkNum m n).2.code.length = m.code.length + 1 ∧ (mkNum m n).2.secret.length = m.secret.length + 1 := by simp [mkNum, Mk.put, Mk.place]
theorem two_code (m : Mk) (op a b : Int) : (mkTwo m op a b).2.code.length = m.code.length + 1 ∧ (mkTwo m op a b).2.secret.length = m.secret.length + 1 := by simp [mkTwo, Mk.put, Mk.place]
theorem not_code (m : Mk) (a : Int) : (mkNot m a).2.code.length = m.code.length + 2 ∧ (mkNot m a).2.secret.length = m.secret.length + 2 := by simp [mkNot, num_code, two_code]
theorem some_code (m : Mk) (a : Int) : (mkSome m a).2.code.length = m.code.length + 5 ∧ (mkSome m a).2.secret.length = m.secret.length + 5 := by simp [mkSome, num_code, two_code]
theorem mask_code (m : Mk) (a : Int) : (mkMask m a).2.code.length = m.code.length + 2 ∧ (mkMask m a).2.secret.length = m.secret.length + 2 := by simp [mkMask, num_code, two_code]
theorem sel_code (m : Mk) (k b c : Int) : (mkSel m k b c).2.code.length = m.code.length + 5 ∧ (mkSel m k b c).2.secret.length = m.secret.length + 5 := by simp [mkSel, not_code, two_code]
theorem less_code (m : Mk) (a b : Int) : (mkLess m a b).2.code.length = m.code.length + 9 ∧ (mkLess m a b).2.secret.length = m.secret.length + 9 := by simp [mkLess, num_code, not_code, two_code]
theorem bit_code (m : Mk) (a n : Int) : (mkBit m a n).2.code.length = m.code.length + 4 ∧ (mkBit m a n).2.secret.length = m.secret.length + 4 := by simp [mkBit, num_code, two_code]
theorem shStep_code (op b : Int) (x : Int × Mk) (k : Nat) : (mkShStep op b x k).2.code.length = x.2.code.length + 13 ∧ (mkShStep op b x k).2.secret.length = x.2.secret.length + 13 := by simp [mkShStep, num_code, two_code, bit_code, mask_code, sel_code]
theorem shTo_code (m : Mk) (op a b : Int) : ∀ n, (mkShTo m op a b n).2.code.length = m.code.length + 13 * n ∧ (mkShTo m op a b n).2.secret.length = m.secret.length + 13 * n
  | 0 => ⟨rfl, rfl⟩
  | n + 1 => by
    have := shTo_code m op a b n
    have h2 := shStep_code op b (mkShTo m op a b n) n
    unfold mkShTo
    omega
theorem mulStep_code (a b : Int) (x : Int × Mk) (k : Nat) : (mkMulStep a b x k).2.code.length = x.2.code.length + 10 ∧ (mkMulStep a b x k).2.secret.length = x.2.secret.length + 10 := by simp [mkMulStep, num_code, two_code, bit_code, mask_code]
theorem mulTo_code (m : Mk) (a b : Int) : ∀ n, (mkMulTo m a b n).2.code.length = m.code.length + 1 + 10 * n ∧ (mkMulTo m a b n).2.secret.length = m.secret.length + 1 + 10 * n
  | 0 => num_code m 0
  | n + 1 => by
    have := mulTo_code m a b n
    have h2 := mulStep_code a b (mkMulTo m a b n) n
    unfold mkMulTo
    omega
theorem divStep_code (a b : Int) (x : Qr) (k : Nat) : (mkDivStep a b x k).m.code.length = x.m.code.length + 30 ∧ (mkDivStep a b x k).m.secret.length = x.m.secret.length + 30 := by simp [mkDivStep, num_code, two_code, bit_code, mask_code, less_code]
theorem divTo_code (m : Mk) (a b : Int) : ∀ n, (mkDivTo m a b n).m.code.length = m.code.length + 2 + 30 * n ∧ (mkDivTo m a b n).m.secret.length = m.secret.length + 2 + 30 * n
  | 0 => by simp [mkDivTo, num_code]
  | n + 1 => by
    have := divTo_code m a b n
    have h2 := divStep_code a b (mkDivTo m a b n) (31 - n)
    unfold mkDivTo
    omega
theorem out_code {m : Mk} {i : Instr} {r : Int × Mk} (h : mkOut m i = some r) : r.2.code.length ≤ m.code.length + 962 ∧ r.2.secret.length ≤ m.secret.length + 962 ∧ m.code.length + 1 ≤ r.2.code.length := by
  unfold mkOut at h
  have c1 := mulTo_code m i.a i.b 32
  have c2 := divTo_code m i.a i.b 32
  have c3 := shTo_code m i.op i.a i.b 5
  have c4 := less_code m i.a i.b
  split at h
  · injection h with h; subst h; omega
  split at h
  · injection h with h; subst h; simp only; omega
  split at h
  · injection h with h; subst h; simp only; omega
  split at h
  · injection h with h; subst h; omega
  split at h
  · injection h with h; subst h; omega
  split at h
  · injection h with h; subst h; simp [some_code, two_code, num_code]
  split at h
  · injection h with h; subst h; simp [some_code, mask_code, sel_code]
  · cases h
end Ev
