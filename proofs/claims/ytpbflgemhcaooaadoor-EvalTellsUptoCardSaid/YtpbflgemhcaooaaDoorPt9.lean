import Derived.Shelf.Strconv.AtoiAll
import Derived.Shelf.Strconv.ErrVarAll
import Derived.Shelf.Strconv.Itoa3
import Derived.Shelf.LaysC
import Derived.Shelf.LaysM
import Derived.Test.YtpbflgemhcaooaaDoorProg
import Derived.Test.YtpbflgemhcaooaaDoorPt8
import Derived.Lib.SmallJoins
import Derived.Outline
import Derived.Test.YtpbflgemhcaooaaDoorPt1
import Derived.StillTail
/- strconv's functions that are called, at this translation: their layings alone. -/
namespace Go.Proofs
open Go.Shelf
def Tryd.laysM171_ren : Go.Shelf.Ren := ⟨fun | 171 => 75 | 243 => 99 | 246 => 113 | 283 => 128 | 284 => 129 | 285 => 130 | 286 => 131 | 129 => 143 | 317 => 142 | 318 => 144 | 319 => 145 | 320 => 146 | 337 => 151 | 338 => 152 | n => n, fun | 3 => 3 | 9 => 9 | 2 => 2 | 4 => 4 | 171 => 206 | 0 => 0 | 53 => 207 | 37 => 173 | 5 => 5 | 173 => 210 | 212 => 220 | 51 => 174 | 20 => 20 | 213 => 221 | 46 => 213 | 232 => 231 | 233 => 232 | n => n, fun | 17 => 3 | 18 => 4 | 19 => 5 | n => n⟩
theorem Tryd.laysM171 : Go.Proofs.LaysM.n171 Tryd.prog Tryd.laysM171_ren := {
  mixed := by kernel_rfl
  f129 := Tryd.func143.trans (congrArg some (by kernel_rfl))
  f171 := Tryd.func75.trans (congrArg some (by kernel_rfl))
  f243 := Tryd.func99.trans (congrArg some (by kernel_rfl))
  f246 := Tryd.func113.trans (congrArg some (by kernel_rfl))
  f283 := Tryd.func128.trans (congrArg some (by kernel_rfl))
  f284 := Tryd.func129.trans (congrArg some (by kernel_rfl))
  f285 := Tryd.func130.trans (congrArg some (by kernel_rfl))
  f286 := Tryd.func131.trans (congrArg some (by kernel_rfl))
  f317 := Tryd.func142.trans (congrArg some (by kernel_rfl))
  f318 := Tryd.func144.trans (congrArg some (by kernel_rfl))
  f319 := Tryd.func145.trans (congrArg some (by kernel_rfl))
  f320 := Tryd.func146.trans (congrArg some (by kernel_rfl))
  f337 := Tryd.func151.trans (congrArg some (by kernel_rfl))
  f338 := Tryd.func152.trans (congrArg some (by kernel_rfl))
  t0 := Tryd.underlying0
  a0 := Tryd.isAgg0
  z0 := Tryd.sizeOf0
  v0 := Tryd.zeroValue0
  t2 := Tryd.underlying2
  a2 := Tryd.isAgg2
  z2 := Tryd.sizeOf2
  v2 := Tryd.zeroValue2
  t3 := Tryd.underlying3
  a3 := Tryd.isAgg3
  z3 := Tryd.sizeOf3
  v3 := Tryd.zeroValue3
  t4 := Tryd.underlying4
  a4 := Tryd.isAgg4
  z4 := Tryd.sizeOf4
  v4 := Tryd.zeroValue4
  t5 := Tryd.underlying5
  a5 := Tryd.isAgg5
  z5 := Tryd.sizeOf5
  v5 := Tryd.zeroValue5
  t9 := Tryd.underlying9
  a9 := Tryd.isAgg9
  z9 := Tryd.sizeOf9
  v9 := Tryd.zeroValue9
  t20 := Tryd.underlying20
  a20 := Tryd.isAgg20
  z20 := Tryd.sizeOf20
  v20 := Tryd.zeroValue20
  t37 := Tryd.underlying173
  a37 := Tryd.isAgg173
  z37 := Tryd.sizeOf173
  v37 := Tryd.zeroValue173
  t46 := Tryd.underlying213
  a46 := Tryd.isAgg213
  z46 := Tryd.sizeOf213
  v46 := Tryd.zeroValue213
  t51 := Tryd.underlying174
  a51 := Tryd.isAgg174
  z51 := Tryd.sizeOf174
  v51 := Tryd.zeroValue174
  t53 := Tryd.underlying207
  a53 := Tryd.isAgg207
  z53 := Tryd.sizeOf207
  v53 := Tryd.zeroValue207
  t171 := Tryd.underlying206
  a171 := Tryd.isAgg206
  z171 := Tryd.sizeOf206
  v171 := Tryd.zeroValue206
  t173 := Tryd.underlying210
  a173 := Tryd.isAgg210
  z173 := Tryd.sizeOf210
  v173 := Tryd.zeroValue210
  t212 := Tryd.underlying220
  a212 := Tryd.isAgg220
  z212 := Tryd.sizeOf220
  v212 := Tryd.zeroValue220
  t213 := Tryd.underlying221
  a213 := Tryd.isAgg221
  z213 := Tryd.sizeOf221
  t232 := Tryd.underlying231
  a232 := Tryd.isAgg231
  z232 := Tryd.sizeOf231
  v232 := Tryd.zeroValue231
  t233 := Tryd.underlying232
  a233 := Tryd.isAgg232
  z233 := Tryd.sizeOf232
  v233 := Tryd.zeroValue232
  g17 := by kernel_rfl
  g18 := by kernel_rfl
  g19 := by kernel_rfl
  i0 := by kernel_rfl
  i2 := by kernel_rfl
  i3 := by kernel_rfl
  i4 := by kernel_rfl
  i5 := by kernel_rfl
  i9 := by kernel_rfl
  i20 := by kernel_rfl
  i37 := by kernel_rfl
  i46 := by kernel_rfl
  i51 := by kernel_rfl
  i53 := by kernel_rfl
  i171 := by kernel_rfl
  i173 := by kernel_rfl
  i212 := by kernel_rfl
  i232 := by kernel_rfl
  i233 := by kernel_rfl
  m17 := by kernel_rfl
  m18 := by kernel_rfl
  m19 := by kernel_rfl }
def Tryd.laysC172_ren : Go.Shelf.Ren := ⟨fun | 172 => 77 | 244 => 101 | 245 => 102 | 247 => 115 | 279 => 116 | 280 => 117 | 281 => 118 | 282 => 119 | 287 => 136 | 316 => 137 | 171 => 75 | 205 => 138 | 321 => 149 | 322 => 150 | 243 => 99 | 246 => 113 | 283 => 128 | 284 => 129 | 285 => 130 | 286 => 131 | 129 => 143 | 317 => 142 | 318 => 144 | 319 => 145 | 320 => 146 | 337 => 151 | 338 => 152 | n => n, fun | 9 => 9 | 3 => 3 | 75 => 146 | 76 => 147 | 4 => 4 | 5 => 5 | 167 => 195 | 37 => 173 | 0 => 0 | 85 => 196 | 2 => 2 | 168 => 198 | 53 => 207 | 175 => 214 | 46 => 213 | 210 => 218 | 127 => 226 | 145 => 229 | 143 => 227 | 21 => 21 | 171 => 206 | 173 => 210 | 212 => 220 | 51 => 174 | 20 => 20 | 213 => 221 | 232 => 231 | 233 => 232 | 80 => 86 | n => n, fun | 15 => 1 | 16 => 2 | 17 => 3 | 18 => 4 | 19 => 5 | n => n⟩
theorem Tryd.laysC172 : Go.Proofs.LaysC.n172 Tryd.prog Tryd.laysC172_ren := {
  mixed := by kernel_rfl
  f129 := Tryd.func143.trans (congrArg some (by kernel_rfl))
  f171 := Tryd.func75.trans (congrArg some (by kernel_rfl))
  f172 := Tryd.func77.trans (congrArg some (by kernel_rfl))
  f205 := Tryd.func138.trans (congrArg some (by kernel_rfl))
  f243 := Tryd.func99.trans (congrArg some (by kernel_rfl))
  f244 := Tryd.func101.trans (congrArg some (by kernel_rfl))
  f245 := Tryd.func102.trans (congrArg some (by kernel_rfl))
  f246 := Tryd.func113.trans (congrArg some (by kernel_rfl))
  f247 := Tryd.func115.trans (congrArg some (by kernel_rfl))
  f279 := Tryd.func116.trans (congrArg some (by kernel_rfl))
  f280 := Tryd.func117.trans (congrArg some (by kernel_rfl))
  f281 := Tryd.func118.trans (congrArg some (by kernel_rfl))
  f282 := Tryd.func119.trans (congrArg some (by kernel_rfl))
  f283 := Tryd.func128.trans (congrArg some (by kernel_rfl))
  f284 := Tryd.func129.trans (congrArg some (by kernel_rfl))
  f285 := Tryd.func130.trans (congrArg some (by kernel_rfl))
  f286 := Tryd.func131.trans (congrArg some (by kernel_rfl))
  f287 := Tryd.func136.trans (congrArg some (by kernel_rfl))
  f316 := Tryd.func137.trans (congrArg some (by kernel_rfl))
  f317 := Tryd.func142.trans (congrArg some (by kernel_rfl))
  f318 := Tryd.func144.trans (congrArg some (by kernel_rfl))
  f319 := Tryd.func145.trans (congrArg some (by kernel_rfl))
  f320 := Tryd.func146.trans (congrArg some (by kernel_rfl))
  f321 := Tryd.func149.trans (congrArg some (by kernel_rfl))
  f322 := Tryd.func150.trans (congrArg some (by kernel_rfl))
  f337 := Tryd.func151.trans (congrArg some (by kernel_rfl))
  f338 := Tryd.func152.trans (congrArg some (by kernel_rfl))
  t0 := Tryd.underlying0
  a0 := Tryd.isAgg0
  z0 := Tryd.sizeOf0
  v0 := Tryd.zeroValue0
  t2 := Tryd.underlying2
  a2 := Tryd.isAgg2
  z2 := Tryd.sizeOf2
  v2 := Tryd.zeroValue2
  t3 := Tryd.underlying3
  a3 := Tryd.isAgg3
  z3 := Tryd.sizeOf3
  v3 := Tryd.zeroValue3
  t4 := Tryd.underlying4
  a4 := Tryd.isAgg4
  z4 := Tryd.sizeOf4
  v4 := Tryd.zeroValue4
  t5 := Tryd.underlying5
  a5 := Tryd.isAgg5
  z5 := Tryd.sizeOf5
  v5 := Tryd.zeroValue5
  t9 := Tryd.underlying9
  a9 := Tryd.isAgg9
  z9 := Tryd.sizeOf9
  v9 := Tryd.zeroValue9
  t20 := Tryd.underlying20
  a20 := Tryd.isAgg20
  z20 := Tryd.sizeOf20
  v20 := Tryd.zeroValue20
  t21 := Tryd.underlying21
  a21 := Tryd.isAgg21
  z21 := Tryd.sizeOf21
  v21 := Tryd.zeroValue21
  t37 := Tryd.underlying173
  a37 := Tryd.isAgg173
  z37 := Tryd.sizeOf173
  v37 := Tryd.zeroValue173
  t46 := Tryd.underlying213
  a46 := Tryd.isAgg213
  z46 := Tryd.sizeOf213
  v46 := Tryd.zeroValue213
  t51 := Tryd.underlying174
  a51 := Tryd.isAgg174
  z51 := Tryd.sizeOf174
  v51 := Tryd.zeroValue174
  t53 := Tryd.underlying207
  a53 := Tryd.isAgg207
  z53 := Tryd.sizeOf207
  v53 := Tryd.zeroValue207
  t75 := Tryd.underlying146
  a75 := Tryd.isAgg146
  z75 := Tryd.sizeOf146
  v75 := Tryd.zeroValue146
  t76 := Tryd.underlying147
  a76 := Tryd.isAgg147
  z76 := Tryd.sizeOf147
  v76 := Tryd.zeroValue147
  t85 := Tryd.underlying196
  a85 := Tryd.isAgg196
  z85 := Tryd.sizeOf196
  v85 := Tryd.zeroValue196
  t127 := Tryd.underlying226
  a127 := Tryd.isAgg226
  z127 := Tryd.sizeOf226
  v127 := Tryd.zeroValue226
  t143 := Tryd.underlying227
  a143 := Tryd.isAgg227
  z143 := Tryd.sizeOf227
  v143 := Tryd.zeroValue227
  t145 := Tryd.underlying229
  a145 := Tryd.isAgg229
  z145 := Tryd.sizeOf229
  v145 := Tryd.zeroValue229
  t167 := Tryd.underlying195
  a167 := Tryd.isAgg195
  z167 := Tryd.sizeOf195
  v167 := Tryd.zeroValue195
  t168 := Tryd.underlying198
  a168 := Tryd.isAgg198
  z168 := Tryd.sizeOf198
  v168 := Tryd.zeroValue198
  t171 := Tryd.underlying206
  a171 := Tryd.isAgg206
  z171 := Tryd.sizeOf206
  v171 := Tryd.zeroValue206
  t173 := Tryd.underlying210
  a173 := Tryd.isAgg210
  z173 := Tryd.sizeOf210
  v173 := Tryd.zeroValue210
  t175 := Tryd.underlying214
  a175 := Tryd.isAgg214
  z175 := Tryd.sizeOf214
  v175 := Tryd.zeroValue214
  t210 := Tryd.underlying218
  a210 := Tryd.isAgg218
  z210 := Tryd.sizeOf218
  v210 := Tryd.zeroValue218
  t212 := Tryd.underlying220
  a212 := Tryd.isAgg220
  z212 := Tryd.sizeOf220
  v212 := Tryd.zeroValue220
  t213 := Tryd.underlying221
  a213 := Tryd.isAgg221
  z213 := Tryd.sizeOf221
  t232 := Tryd.underlying231
  a232 := Tryd.isAgg231
  z232 := Tryd.sizeOf231
  v232 := Tryd.zeroValue231
  t233 := Tryd.underlying232
  a233 := Tryd.isAgg232
  z233 := Tryd.sizeOf232
  v233 := Tryd.zeroValue232
  g15 := by kernel_rfl
  g16 := by kernel_rfl
  g17 := by kernel_rfl
  g18 := by kernel_rfl
  g19 := by kernel_rfl
  t80 := Tryd.underlying86
  a80 := Tryd.isAgg86
  z80 := Tryd.sizeOf86
  v80 := Tryd.zeroValue86
  i0 := by kernel_rfl
  i2 := by kernel_rfl
  i3 := by kernel_rfl
  i4 := by kernel_rfl
  i5 := by kernel_rfl
  i9 := by kernel_rfl
  i20 := by kernel_rfl
  i21 := by kernel_rfl
  i37 := by kernel_rfl
  i46 := by kernel_rfl
  i51 := by kernel_rfl
  i53 := by kernel_rfl
  i75 := by kernel_rfl
  i76 := by kernel_rfl
  i80 := by kernel_rfl
  i85 := by kernel_rfl
  i127 := by kernel_rfl
  i143 := by kernel_rfl
  i145 := by kernel_rfl
  i167 := by kernel_rfl
  i168 := by kernel_rfl
  i171 := by kernel_rfl
  i173 := by kernel_rfl
  i175 := by kernel_rfl
  i210 := by kernel_rfl
  i212 := by kernel_rfl
  i232 := by kernel_rfl
  i233 := by kernel_rfl
  m15 := by kernel_rfl
  m16 := by kernel_rfl
  m17 := by kernel_rfl
  m18 := by kernel_rfl
  m19 := by kernel_rfl
  c0 := by kernel_rfl
  c2 := by kernel_rfl
  c3 := by kernel_rfl
  c4 := by kernel_rfl
  c5 := by kernel_rfl
  c9 := by kernel_rfl
  c20 := by kernel_rfl
  c21 := by kernel_rfl
  c37 := by kernel_rfl
  c46 := by kernel_rfl
  c51 := by kernel_rfl
  c53 := by kernel_rfl
  c75 := by kernel_rfl
  c76 := by kernel_rfl
  c80 := by kernel_rfl
  c85 := by kernel_rfl
  c127 := by kernel_rfl
  c143 := by kernel_rfl
  c145 := by kernel_rfl
  c167 := by kernel_rfl
  c168 := by kernel_rfl
  c171 := by kernel_rfl
  c173 := by kernel_rfl
  c175 := by kernel_rfl
  c210 := by kernel_rfl
  c212 := by kernel_rfl
  c213 := by kernel_rfl
  c232 := by kernel_rfl
  c233 := by kernel_rfl }
end Go.Proofs
/- strconv.Atoi, strconv.Itoa: their contracts at this translation. -/
namespace Go.Proofs.YtpbflgemhcaooaaDoor
open Go.RowKit
set_option linter.unusedSimpArgs false
set_option linter.unusedVariables false
/-- what strconv's variables hold -/
structure Vars (w : World) : Prop where
  tab : Lib.TabIs Tryd.prog w "internal/strconv.uint64pow10" .u64 Lib.pow10Tab
  syn : ∃ tp p, w.var? Tryd.prog "strconv.ErrSyntax" = some #[.iface tp p]
  rng : ∃ tp p, w.var? Tryd.prog "strconv.ErrRange" = some #[.iface tp p]
theorem gTab : Tryd.prog.globalNamed "internal/strconv.uint64pow10" = some 3 := by kernel_rfl
theorem gSyn : Tryd.prog.globalNamed "strconv.ErrSyntax" = some 1 := by kernel_rfl
theorem gRng : Tryd.prog.globalNamed "strconv.ErrRange" = some 2 := by kernel_rfl
theorem Vars.stays {w w' : World} (h : Vars w) (hb : Below w.heap.size w w') : Vars w' := by
  obtain ⟨h1, ⟨tp, p, h2⟩, tp', p', h3⟩ := h
  exact ⟨Joins.var_stays gTab h1 hb (Nat.le_refl _), ⟨tp, p, Joins.var_stays gSyn h2 hb (Nat.le_refl _)⟩, ⟨tp', p', Joins.var_stays gRng h3 hb (Nat.le_refl _)⟩⟩

/-- Atoi: the number, and is it one -/
def atoiV (s : ByteArray) : Int := match Lib.atoiAll s.data.toList with | .ok v => v | .range => Lib.atoiSat s.data.toList | _ => 0
def atoiB (s : ByteArray) : Bool := match Lib.atoiAll s.data.toList with | .ok _ => true | _ => false
theorem atoiV_in (s : ByteArray) : -9223372036854775808 ≤ atoiV s ∧ atoiV s ≤ 9223372036854775807 := by
  unfold atoiV
  split
  · rename_i v h; exact Lib.atoiAll_bounds h
  · exact Lib.atoiSat_bounds _
  · omega
theorem atoi_yes (s : ByteArray) (w : World) (hs : s.size ≤ 281474976710656) (h : atoiB s = true) :
    Calls Tryd.prog 77 #[.string s] w fun e w' => e = .returned (.tuple #[.int .i64 (atoiV s), .nilIface]) ∧ Below w.heap.size w w' := by
  unfold atoiB at h
  unfold atoiV
  rcases h1 : Lib.atoiAll s.data.toList with v | _ | _
  · refine (Any.strconv_Atoi_ok Tryd.laysC172 s (by omega) v h1 w).mono fun e w' ⟨he, hw⟩ => ⟨he, ?_⟩
    rcases hw with rfl | ⟨t, rfl⟩
    · exact Below.refl _ _
    · exact Joins.below_bytesWorld _ _ _ _ (Nat.le_refl _)
  · rw [h1] at h; cases h
  · rw [h1] at h; cases h
theorem atoi_no (s : ByteArray) (w : World) (hs : s.size ≤ 281474976710656) (hv : Vars w) (h : atoiB s = false) :
    Calls Tryd.prog 77 #[.string s] w fun e w' => ∃ N, e = .returned (.tuple #[.int .i64 (atoiV s), .iface 198 (.pointer (some ⟨N, 0, none⟩))]) ∧ Below w.heap.size w w' := by
  obtain ⟨h1, ⟨tp, p, h2⟩, tp', p', h3⟩ := hv
  unfold atoiB at h
  unfold atoiV
  rcases h4 : Lib.atoiAll s.data.toList with v | _ | _
  · rw [h4] at h; cases h
  · exact (Any.strconv_Atoi_syntax_var Tryd.laysC172 s hs h4 tp p w h2).mono fun e w' ⟨N, he, _, _, hb⟩ => ⟨N, he, hb⟩
  · exact (Any.strconv_Atoi_range_var Tryd.laysC172 s hs h4 tp' p' w h3).mono fun e w' ⟨N, he, _, _, hb⟩ => ⟨N, he, hb⟩
theorem below_grown (B : Nat) (w : World) (hB : B ≤ w.heap.size) (k : Nat) (os : Array Obj) : Below B w (Sort.grow (w.drewN k) os) :=
  ⟨rfl, rfl, rfl, by show w.heap.size ≤ (w.heap ++ os).size; rw [Array.size_append]; omega, fun j hj => by
    show (w.heap ++ os)[j]? = _
    rw [Array.getElem?_append_left (by omega)]⟩
theorem itoa_any (n : Int) (w : World) (h : -9223372036854775808 ≤ n ∧ n ≤ 9223372036854775807) (hv : Vars w) :
    Calls Tryd.prog 75 #[.int .i64 n] w fun e w' => e = .returned (.string ⟨(Lib.itoa n).toArray⟩) ∧ Below w.heap.size w w' :=
  (Any.strconv_Itoa Tryd.laysM171 n h.1 h.2 w hv.tab).mono fun e w' ⟨he, k, os, hw⟩ => ⟨he, by subst hw; exact below_grown _ _ (Nat.le_refl _) _ _⟩

end Go.Proofs.YtpbflgemhcaooaaDoor
/- A table in memory. -/
namespace Go.Proofs.YtpbflgemhcaooaaDoor
open Go.RowKit
set_option linter.unusedSimpArgs false
set_option linter.unusedVariables false
/-- a table in a block -/
structure TableAt (w : World) (b : Nat) (t : List Int) : Prop where
  len : t.length = 18
  lt : b < w.heap.size
  cell : ∀ k, k < 18 → w.cell? ⟨b, k, none⟩ = some (.int .i64 (t.getD k 0))
theorem TableAt.stays {w w' : World} {b : Nat} {t : List Int} (h : TableAt w b t) (hb : Below w.heap.size w w') : TableAt w' b t :=
  ⟨h.len, Nat.lt_of_lt_of_le h.lt hb.size, fun k hk => (hb.cell (p := ⟨b, k, none⟩) h.lt).trans (h.cell k hk)⟩
theorem TableAt.keeps {w w' : World} {b B : Nat} {t : List Int} (h : TableAt w b t) (hb : Below B w w') (hB : b < B) (hs : w.heap.size ≤ w'.heap.size) : TableAt w' b t :=
  ⟨h.len, Nat.lt_of_lt_of_le h.lt hs, fun k hk => (hb.cell (p := ⟨b, k, none⟩) hB).trans (h.cell k hk)⟩
theorem box_table {w : World} {t : List Int} (ht : t.length = 18) (T : TypeId) : TableAt (w.alloc (.cells (t.map (Value.int .i64)).toArray T)) w.heap.size t :=
  ⟨ht, by simp, fun k hk => by
    have hx : t[k]? = some (t.getD k 0) := by rw [List.getD_eq_getElem?_getD, List.getElem?_eq_getElem (by omega)]; rfl
    unfold World.cell?
    simp only [heap_alloc_new]
    show (t.map (Value.int .i64)).toArray[k]? = _
    rw [List.getElem?_toArray, List.getElem?_map, hx]
    rfl⟩
def tableV (t : List Int) : Value := .agg (t.map (Value.int .i64)).toArray
end Go.Proofs.YtpbflgemhcaooaaDoor
/- A string's bytes and pieces, told in lists. -/
namespace Go.Proofs.YtpbflgemhcaooaaDoor
open Go.RowKit
set_option linter.unusedSimpArgs false
set_option linter.unusedVariables false
theorem sx_ix {T : TypeId} (hT : Tryd.prog.underlying T = some .string) {l : List UInt8} {i : Nat} {c : UInt8} (h : l[i]? = some c) (u : World) : (Go.Instr.index T (.string ⟨l.toArray⟩) (.int .i64 (i : Int))).run Tryd.prog u = .ok (.int .u8 (c.toNat : Int)) u := by
  obtain ⟨hi, hc⟩ := List.getElem?_eq_some_iff.1 h
  have hs : (⟨l.toArray⟩ : ByteArray).size = l.length := by show l.toArray.size = _; simp
  rw [run_index_string u T _ .i64 _ hT]
  rw [dif_pos ⟨by omega, by rw [hs]; omega⟩]
  have e : ∀ hh, (⟨l.toArray⟩ : ByteArray)[(i : Int).toNat]'hh = c := fun hh => by
    show l.toArray[i]'_ = c
    simpa using hc
  rw [e]
theorem sx_from {T : TypeId} (hT : Tryd.prog.underlying T = some .string) {l : List UInt8} {i : Nat} (h : i ≤ l.length) (u : World) : (Go.Instr.slice T (.string ⟨l.toArray⟩) (some (.int .i64 (i : Int))) none none).run Tryd.prog u = .ok (.string ⟨(l.drop i).toArray⟩) u := by
  have hs : (⟨l.toArray⟩ : ByteArray).size = l.length := by show l.toArray.size = _; simp
  rw [run_slice_string_from_if u T _ .i64 _ hT, if_pos ⟨by omega, by rw [hs]; omega⟩, hs]
  rw [ByteArray.extract_mk, show (i : Int).toNat = i from rfl, List.take_of_length_le (by simp)]
theorem sx_to {T : TypeId} (hT : Tryd.prog.underlying T = some .string) {l : List UInt8} {i : Nat} (h : i ≤ l.length) (u : World) : (Go.Instr.slice T (.string ⟨l.toArray⟩) none (some (.int .i64 (i : Int))) none).run Tryd.prog u = .ok (.string ⟨(l.take i).toArray⟩) u := by
  have hs : (⟨l.toArray⟩ : ByteArray).size = l.length := by show l.toArray.size = _; simp
  rw [run_slice_string_to_if u T _ .i64 _ hT, if_pos ⟨by omega, by rw [hs]; omega⟩]
  rw [ByteArray.extract_mk, show (i : Int).toNat = i from rfl, List.drop_zero, Nat.sub_zero]
theorem sx_neq {c : UInt8} (k : Nat) (hk : k < 256) (h : c ≠ UInt8.ofNat k) : ((c.toNat : Int) != (k : Int)) = true := by
  refine bne_iff_ne.2 (fun e => h ?_)
  apply UInt8.toNat_inj.1
  rw [UInt8.toNat_ofNat_of_lt' hk]
  omega
theorem sx_ne {c : UInt8} (k : Nat) (hk : k < 256) (h : c ≠ UInt8.ofNat k) : ((c.toNat : Int) == (k : Int)) = false := by
  refine beq_eq_false_iff_ne.2 (fun e => h ?_)
  apply UInt8.toNat_inj.1
  rw [UInt8.toNat_ofNat_of_lt' hk]
  omega
end Go.Proofs.YtpbflgemhcaooaaDoor
/- A drawn region in one given order: an operation is taken when it leaves the world alone and reads only what stays (it is 'light'), or when nothing else may come up (it is 'heavy': a call, a store, an append). -/
namespace Go.Proofs.YtpbflgemhcaooaaDoor
open Go.RowKit
section
variable {P : Program} {ops : Array Oper} {Q : Exit → Act → World → Prop} {S : World → Prop}

/-- is the order one in which the region may be walked? -/
def ordered (ops : Array Oper) : List (Nat × Bool) → Array Bool → Bool
  | [], listed => (Region.ready .any ops listed).isEmpty
  | (i, light) :: rest, listed =>
    (if light then Region.free .any ops listed i && (Region.ready .any ops listed).contains i else Region.ready .any ops listed == [i]) && ordered ops rest (listed.setIfInBounds i true)

/-- light: in every world that is right it leaves v, and the world as it is -/
def light1 (P : Program) (ops : Array Oper) (S : World → Prop) (o : Oper) (a : Act) (v : Value) : Prop := YieldsIf P ops S o v a

theorem light_plain {o : Oper} {a : Act} {v : Value} (hg : o.guard = none) (h : ∀ w, S w → (execOp a.eval o).run P w = .ok (.value v) w) : light1 P ops S o a v :=
  .inl ⟨by simp [Region.wanted, hg], h⟩
theorem light_yes {o : Oper} {a : Act} {v : Value} (hw : Region.wanted o (yielded ops a.tmps) = true) (h : ∀ w, S w → (execOp a.eval o).run P w = .ok (.value v) w) : light1 P ops S o a v :=
  .inl ⟨hw, h⟩
theorem light_no {o : Oper} {a : Act} (hw : Region.wanted o (yielded ops a.tmps) = false) : light1 P ops S o a undef := .inr ⟨hw, rfl⟩

/-- the walk in an order -/
def trail (P : Program) (ops : Array Oper) (Q : Exit → Act → World → Prop) (S : World → Prop) : List (Nat × Bool) → Act → World → Prop
  | [], a, w => Q .normal a w
  | (i, true) :: rest, a, w => ∃ o v, ops[i]? = some o ∧ (∀ c a' w', Q (.panic c) (a'.put o.dst v) w' → Q (.panic c) a' w') ∧ light1 P ops S o a v ∧ trail P ops Q S rest (a.put o.dst v) w
  | (i, false) :: rest, a, w => wpOp P ops Q i (fun a' w' => S w' ∧ trail P ops Q S rest a' w') a w

theorem trail_wpAnyH (hs : Region.noSelect ops = true) : ∀ (order : List (Nat × Bool)) (fuel : Nat) (listed : Array Bool) (a : Act) (w : World), order.length ≤ fuel → ordered ops order listed = true → S w → trail P ops Q S order a w → wpAnyH P .any ops Q S fuel listed a w
  | [], fuel, listed, a, w, _, ho, _, h => wpAnyH_done (by unfold ordered at ho; simpa using ho) h fuel
  | (i, l) :: rest, 0, listed, a, w, hf, _, _, _ => absurd hf (by simp)
  | (i, true) :: rest, fuel + 1, listed, a, w, hf, ho, hS, h => by
    obtain ⟨o, v, hi, hQ, hl, hr⟩ := h
    unfold ordered at ho
    simp only [if_true, Bool.and_eq_true] at ho
    exact wpAnyH_take hi hs ho.1.1 ho.1.2 (fun c a' w' => hQ c a' w') hl hS (trail_wpAnyH hs rest fuel _ _ _ (by simpa using hf) ho.2 hS hr)
  | (i, false) :: rest, fuel + 1, listed, a, w, hf, ho, hS, h => by
    unfold ordered at ho
    simp only [Bool.false_eq_true, if_false, Bool.and_eq_true, beq_iff_eq] at ho
    refine wpAnyH_all ho.1 (by simp) fun j hj => ?_
    have : j = i := by simpa using hj
    subst this
    exact wpOp_mono (fun a' w' h' => ⟨h'.1, trail_wpAnyH hs rest fuel _ _ _ (by simpa using hf) ho.2 h'.1 h'.2⟩) h

theorem wp_region_trail {id : Nat} {a : Act} {w : World} (S : World → Prop) (order : List (Nat × Bool)) (hm : P.follows .mixedOrders = true) (hs : Region.noSelect ops = true)
    (ho : ordered ops order (Array.replicate ops.size false) = true) (hl : order.length ≤ ops.size) (hS : S w.drew) (h : trail P ops Q S order a w.drew) : (Code.region id ops true).wp P Q a w :=
  wp_region_held hm (trail_wpAnyH hs order _ _ _ _ hl ho hS h)

theorem trail_light {i : Nat} {o : Oper} {rest : List (Nat × Bool)} {a : Act} {w : World} {v : Value} (hi : ops[i]? = some o) (hl : light1 P ops S o a v) (hQ : ∀ c a' w', Q (.panic c) (a'.put o.dst v) w' → Q (.panic c) a' w')
    (hr : trail P ops Q S rest (a.put o.dst v) w) : trail P ops Q S ((i, true) :: rest) a w := ⟨o, v, hi, hQ, hl, hr⟩
theorem trail_nil {a : Act} {w : World} (h : Q .normal a w) : trail P ops Q S [] a w := h
/-- K where it goes on, else Q -/
def onNormal (K : Act → World → Prop) (Q : Exit → Act → World → Prop) : Exit → Act → World → Prop
  | .normal, a, w => K a w
  | e, a, w => Q e a w
theorem trail_heavy {i : Nat} {o : Oper} {rest : List (Nat × Bool)} {a : Act} {w : World} (hi : ops[i]? = some o)
    (h : wpList P ops (onNormal (fun a' w' => S w' ∧ trail P ops Q S rest a' w') Q) [o] a w) : trail P ops Q S ((i, false) :: rest) a w := by
  show wpOp P ops Q i (fun a' w' => S w' ∧ trail P ops Q S rest a' w') a w
  unfold wpOp
  simp only [hi]
  unfold wpList at h
  split
  · rename_i hw
    rw [if_pos hw] at h
    refine h.imp (fun h => ?_) (fun h => ⟨h.1, ?_⟩)
    · unfold Oper.wp at *
      generalize (execOp a.eval o).run P w = r at *
      cases r with
      | ok n w' =>
        cases n <;> simp only [Oper.upon] at h ⊢ <;> exact h
      | halt x w' => cases x <;> simp only [Oper.upon] at h ⊢ <;> exact h
    · obtain ⟨a', w', h2⟩ := h.2
      exact ⟨a', w', h2⟩
  · rename_i hw
    rw [if_neg hw] at h
    exact h
end
end Go.Proofs.YtpbflgemhcaooaaDoor
/- A drawn region with one store: the operations for which the store waits see the world ahead of it; the few others do the same in both. -/
namespace Go.Proofs.YtpbflgemhcaooaaDoor
open Go.RowKit
section
variable {P : Program} {ops : Array Oper} {S0 S1 : World → Prop} {Q : Exit → Act → World → Prop}

theorem look_wpOp {S' : World → Prop} {j : Nat} {o : Oper} {A A1 a : Act} {K : Act → World → Prop} {v : Value} {w : World} (hj : ops[j]? = some o) (hs : ∀ cs b, o.op ≠ .select cs b)
    (h1 : wpList P ops (settled S' A1) [o] A w) (hA : A1 = A.put o.dst v) (hlook : ∀ t ∈ o.looksAt ops, A.tmps[t]? = a.tmps[t]?) (hsz : A.tmps.size = a.tmps.size)
    (hK : ∀ w', S' w' → K (a.put o.dst v) w') : wpOp P ops Q j K a w := by
  obtain ⟨he, hw⟩ := look_congr o hs A a hlook
  unfold wpOp
  simp only [hj]
  unfold wpList at h1
  rw [hw] at h1
  split
  · rename_i hwt
    rw [if_pos hwt] at h1
    refine .inl ?_
    rcases h1 with h1 | ⟨_, a', w', h1, _⟩
    case inr => cases h1
    unfold Oper.wp at *
    rw [he] at h1
    have fin : ∀ u w', wpList P ops (settled S' A1) [] (A.put o.dst u) w' → K (a.put o.dst u) w' := fun u w' h2 => by
      obtain ⟨_, h3, h4⟩ := h2
      rw [hA] at h3
      rw [put_same h3 hsz]
      exact hK w' h4
    generalize (execOp a.eval o).run P w = r at *
    cases r with
    | ok n w' =>
      cases n <;> simp only [Oper.upon] at h1 ⊢
      case value u => exact fin u w' h1
      case skip => exact fin undef w' h1
      case defer d =>
        obtain ⟨_, h3, _⟩ := h1
        rw [hA] at h3
        have := congrArg Act.defers h3
        rw [put_defers', put_defers'] at this
        exact absurd (congrArg List.length this) (by simp)
      case enter f args =>
        refine Calls.mono h1 fun e w'' he => ?_
        cases e with
        | returned u => exact fin u w'' he
        | panicked c => exact absurd he.1 (by simp)
        | outgrown => obtain ⟨a', w', h2, _⟩ := he; cases h2
      case row row args => exact Rows.mono h1 fun u w'' he => fin u w'' he
    | halt x w' =>
      cases x <;> simp only [Oper.upon] at h1 ⊢
      case panic u => exact absurd h1.1 (by simp)
  · rename_i hwt
    rw [if_neg hwt] at h1
    obtain ⟨_, h3, h4⟩ := h1
    rw [hA] at h3
    rw [put_same h3 hsz]
    exact hK w h4

/-- the store waits for all but these, and nobody waits for it -/
def storesLast (ops : Array Oper) (p : Nat) (fr : List Nat) : Bool :=
  (List.range ops.size).all fun k => k == p || ((Region.waitsFor .any ops p k || fr.contains k) && !Region.waitsFor .any ops k p)
theorem storesLast_spec {p : Nat} {fr : List Nat} (h : storesLast ops p fr = true) {k : Nat} (hk : k < ops.size) (hn : k ≠ p) : (Region.waitsFor .any ops p k = true ∨ k ∈ fr) := by
  unfold storesLast at h
  rw [List.all_eq_true] at h
  have := h k (List.mem_range.2 hk)
  simp only [Bool.or_eq_true, beq_iff_eq, Bool.and_eq_true, List.contains_eq_mem, decide_eq_true_eq] at this
  exact (this.resolve_left hn).1
/-- what an operation does, ahead of the store, and behind it -/
structure doesAt (P : Program) (ops : Array Oper) (S0 S1 : World → Prop) (p : Nat) (fr : List Nat) (k : Nat) (o : Oper) (a a1 : Act) : Prop where
  pre : k ≠ p → does1 P ops S0 o a a1
  post : k ≠ p → k ∈ fr → does1 P ops S1 o a a1
  store : k = p → ∀ w, S0 w → wpList P ops (settled S1 a1) [o] a w
/-- which of the two it is, by what is listed -/
structure Phase (ops : Array Oper) (S0 S1 : World → Prop) (p : Nat) (listed : Array Bool) (w : World) : Prop where
  pre : listed.getD p true = false → S0 w
  post : listed.getD p true = true → S1 w
  closed : listed.getD p true = true → ∀ k, Region.waitsFor .any ops p k = true → listed.getD k false = true
theorem Phase.last {p : Nat} {listed : Array Bool} {w : World} (h : Phase ops S0 S1 p listed w) (hl : listed.getD p true = true) : S1 w := h.post hl
theorem getD_true_false {listed : Array Bool} {k : Nat} (hk : k < listed.size) : listed.getD k true = listed.getD k false := by simp [hk]
theorem Phase.next {p : Nat} {fr : List Nat} {listed : Array Bool} {w : World} {j : Nat} {o : Oper} {a a1 : Act} (h : Phase ops S0 S1 p listed w) (hsz : listed.size = ops.size) (hfr : storesLast ops p fr = true) (hj : j ∈ Region.ready .any ops listed)
    (hd : doesAt P ops S0 S1 p fr j o a a1) : ∃ S' : World → Prop, wpList P ops (settled S' a1) [o] a w ∧ ∀ w', S' w' → Phase ops S0 S1 p (listed.setIfInBounds j true) w' := by
  obtain ⟨hjun, oj, hoj, hdeps⟩ := mem_ready.1 hj
  have hjs : j < listed.size := by rw [hsz]; exact (Array.getElem?_eq_some_iff.1 hoj).1
  have keep : ∀ k, listed.getD k false = true → (listed.setIfInBounds j true).getD k false = true := fun k hk => by
    by_cases hkj : k = j
    · subst hkj; simp [hjs]
    · rw [getD_set_ne false (fun e => hkj e.symm)]; exact hk
  by_cases hjp : j = p
  · subst hjp
    refine ⟨S1, hd.store rfl w (h.pre hjun), fun w' hw => ⟨fun e => ?_, fun _ => hw, fun _ k hk => ?_⟩⟩
    · simp [hjs] at e
    · obtain ⟨o', ho', e, he, hb, hek⟩ := Region.waitsFor_spec hk
      rw [hoj] at ho'
      injection ho' with ho'
      subst ho'
      have := hdeps e he hb
      rw [hek] at this
      exact keep k this
  · have hpe : (listed.setIfInBounds j true).getD p true = listed.getD p true := getD_set_ne true hjp
    cases hp : listed.getD p true with
    | false => exact ⟨S0, hd.pre hjp w (h.pre hp), fun w' hw => ⟨fun _ => hw, fun e => (by rw [hpe, hp] at e; cases e), fun e => (by rw [hpe, hp] at e; cases e)⟩⟩
    | true =>
      have hjo : j < ops.size := by omega
      rcases storesLast_spec hfr hjo hjp with hw | hm
      · have := h.closed hp j hw
        rw [getD_true_false hjs, this] at hjun
        cases hjun
      · exact ⟨S1, hd.post hjp hm w (h.post hp), fun w' hw => ⟨fun e => (by rw [hpe, hp] at e; cases e), fun _ => hw, fun _ k hk => keep k (h.closed hp k hk)⟩⟩
theorem wpAny_store {p : Nat} {fr : List Nat} {l : List Oper} {F : Nat → Value} {a0 : Act} (ho : orderly l.toArray = true)
    (hp : p < l.length) (hfr : storesLast l.toArray p fr = true) (hF : ∀ k o, l[k]? = some o → doesAt P l.toArray S0 S1 p fr k o (actAt l F a0 k) (actAt l F a0 (k + 1)))
    (hK : ∀ w, S1 w → Q .normal (actAt l F a0 l.length) w) :
    ∀ (fuel : Nat) (listed : Array Bool) (a : Act) (w : World), listed.size = l.length → (listed.toList.countP (· == false)) = fuel → Stands l F a0 listed a → Phase l.toArray S0 S1 p listed w → wpAny P .any l.toArray Q fuel listed a w := by
  have hsel := Region.noSelect_spec (ops := l.toArray) (by unfold orderly at ho; exact (Bool.and_eq_true _ _ ▸ ho).1)
  have wr : ∀ (i j : Nat) (o o' : Oper) (t : Tmp), l[i]? = some o → l[j]? = some o' → o.dst = some t → o'.dst = some t → i = j := fun i j o o' t hi hj h1 h2 => by
    rcases Nat.lt_trichotomy i j with h | h | h
    · exact absurd h2 (((orderly_spec ho (j := j) (oj := o') (by simpa using hj)).2 i o t (by simpa using hi) h1).1 (by omega))
    · exact h
    · exact absurd h2 (((orderly_spec ho (j := j) (oj := o') (by simpa using hj)).2 i o t (by simpa using hi) h1).1 (by omega))
  have done : ∀ (listed : Array Bool) (a : Act) (w : World), listed.size = l.length → (∀ i, i < l.length → listed.getD i true = true) → Stands l F a0 listed a → S1 w → Q .normal a w := fun listed a w hsz hall hst hS => by
    have : a = actAt l F a0 l.length := by
      have e1 : a.tmps = (actAt l F a0 l.length).tmps := by
        have pt : ∀ t : Nat, a.tmps[t]? = (actAt l F a0 l.length).tmps[t]? := fun t => by
          by_cases hx : ∃ (i : Nat) (o : Oper), l[i]? = some o ∧ o.dst = some t
          · obtain ⟨i, o, hi, hd⟩ := hx
            exact hst.yes i o t hi hd (hall i (List.getElem?_eq_some_iff.1 hi).1)
          · have h1 := hst.no t (fun i o hi hd => absurd ⟨i, o, hi, hd⟩ hx)
            have h2 := actAt_still l F a0 t 0 l.length (fun i o _ _ hi hd => hx ⟨i, o, hi, hd⟩)
            rw [Nat.zero_add] at h2
            rw [h1, h2]
            rfl
        apply Array.ext_getElem?
        intro t
        exact pt t
      have e2 : a.defers = (actAt l F a0 l.length).defers := by rw [hst.defers, actAt_defers]
      cases a
      simp only at e1 e2
      rw [e1, e2]
    rw [this]
    exact hK w hS
  intro fuel
  induction fuel with
  | zero =>
    intro listed a w hsz hc hst hS
    have hall : ∀ i, i < l.length → listed.getD i true = true := fun i hi => by
      rw [List.countP_eq_zero] at hc
      have hil : i < listed.size := by omega
      have := hc listed[i] (by simp)
      simp [hil] at this ⊢
      exact this
    refine ⟨?_, done listed a w hsz hall hst (hS.last (hall p hp))⟩
    cases hr : Region.ready .any l.toArray listed with
    | nil => rfl
    | cons x xs =>
      have hm : x ∈ Region.ready .any l.toArray listed := by rw [hr]; exact List.mem_cons_self
      obtain ⟨h1, o, h2, _⟩ := mem_ready.1 hm
      rw [hall x (by have := (Array.getElem?_eq_some_iff.1 h2).1; simpa using this)] at h1
      cases h1
  | succ fuel ih =>
    intro listed a w hsz hc hst hS
    refine ⟨fun hr => done listed a w hsz (fun i hi => ready_none ho hr (by simpa using hsz) i (by simpa using hi)) hst (hS.last (ready_none ho hr (by simpa using hsz) p (by simpa using hp))), fun j hj => ?_⟩
    obtain ⟨hjun, oj, hoj, hdeps⟩ := mem_ready.1 hj
    have hlj : l[j]? = some oj := by simpa using hoj
    have hjl : j < l.length := (List.getElem?_eq_some_iff.1 hlj).1
    have hA : actAt l F a0 (j + 1) = (actAt l F a0 j).put oj.dst (F j) := by
      show (match l[j]? with | none => _ | some o => _) = _
      rw [hlj]
    obtain ⟨hlt, hsp⟩ := orderly_spec ho hoj
    have still : ∀ (i : Nat) (o : Oper) (t : Tmp), l[i]? = some o → o.dst = some t → ∀ k, i < k → k ≤ l.length → (actAt l F a0 l.length).tmps[t]? = (actAt l F a0 k).tmps[t]? := fun i o t hi hd k hk hkl => by
      have := actAt_still l F a0 t k (l.length - k) (fun i' o' h1 _ h3 h4 => by have := wr i i' o o' t hi h3 hd h4; omega)
      rw [← this, show k + (l.length - k) = l.length from by omega]
    obtain ⟨S', hstep, hS2⟩ := hS.next (by simpa using hsz) hfr hj (hF j oj hlj)
    refine look_wpOp (S' := S') hoj (fun cs b => hsel j oj cs b hoj) hstep hA (fun t ht => ?_) (by rw [actAt_size, hst.size]) (fun w' hS' => ?_)
    · by_cases hx : ∃ (i : Nat) (o : Oper), l[i]? = some o ∧ o.dst = some t
      · obtain ⟨i, o, hi, hd⟩ := hx
        obtain ⟨e, he, heq, hb⟩ := (hsp i o t (by simpa using hi) hd).2 ht
        have hl := hdeps e he hb
        rw [heq] at hl
        have hij : i < j := by have := hlt e he hb; omega
        have hil : i < listed.size := by omega
        rw [hst.yes i o t hi hd (by simp [hil] at hl ⊢; exact hl)]
        exact (still i o t hi hd j hij (by omega)).symm
      · rw [hst.no t (fun i o hi hd => absurd ⟨i, o, hi, hd⟩ hx)]
        have h2 := actAt_still l F a0 t 0 j (fun i o _ _ hi hd => hx ⟨i, o, hi, hd⟩)
        rw [Nat.zero_add] at h2
        exact h2
    · have hjl' : j < listed.size := by omega
      have hjf : listed[j] = false := by simpa [hjl'] using hjun
      refine ih (listed.setIfInBounds j true) _ w' (by simpa using hsz) ?_ ⟨by rw [put_defers', hst.defers], by rw [put_size, hst.size], fun i o t hi hd hl => ?_, fun t hno => ?_⟩ (hS2 w' hS')
      · rw [Array.setIfInBounds, dif_pos hjl', Array.toList_set, List.countP_set (by simpa using hjl')]
        rw [hc]
        simp [hjf]
      · by_cases hij : i = j
        · subst hij
          rw [hlj] at hi
          injection hi with hi
          subst hi
          rw [still i oj t hlj hd (i + 1) (by omega) (by omega), hA, hd]
          exact put_at (by rw [actAt_size, hst.size])
        · have hne : oj.dst ≠ some t := fun hd' => hij (wr i j o oj t hi hlj hd hd')
          rw [put_other _ _ _ _ hne]
          exact hst.yes i o t hi hd (by rw [getD_set_ne true (Ne.symm hij)] at hl; exact hl)
      · have hne : oj.dst ≠ some t := fun hd' => by
          have := hno j oj hlj hd'
          simp [hjl'] at this
        rw [put_other _ _ _ _ hne]
        refine hst.no t fun i o hi hd => ?_
        have h1 := hno i o hi hd
        by_cases hij : i = j
        · subst hij; simp [hjl'] at h1
        · rw [getD_set_ne true (Ne.symm hij)] at h1; exact h1


/-- the acts of the text's order -/
inductive chainS (P : Program) (ops : Array Oper) (S0 S1 : World → Prop) (p : Nat) (fr : List Nat) (K : Act → Prop) : Nat → List Oper → Act → Prop
  | nil {k : Nat} {a : Act} : K a → chainS P ops S0 S1 p fr K k [] a
  | cons {k : Nat} {o : Oper} {rest : List Oper} {a : Act} (v : Value) : doesAt P ops S0 S1 p fr k o a (a.put o.dst v) → chainS P ops S0 S1 p fr K (k + 1) rest (a.put o.dst v) → chainS P ops S0 S1 p fr K k (o :: rest) a
variable {p : Nat} {fr : List Nat}
theorem chainS_mid {K : Act → Prop} {k : Nat} {o : Oper} {rest : List Oper} {a a1 : Act} (hk : decide (k = p) = false) (h : does1 P ops S0 o a a1) (h1 : fr.contains k = true → does1 P ops S1 o a a1) (hp : a1 = a.put o.dst (a1.eval (.tmp (o.dst.getD 0))))
    (hr : chainS P ops S0 S1 p fr K (k + 1) rest a1) : chainS P ops S0 S1 p fr K k (o :: rest) a := by
  have hk' := of_decide_eq_false hk
  refine .cons (a1.eval (.tmp (o.dst.getD 0))) ?_ ?_
  · rw [← hp]; exact ⟨fun _ => h, fun _ hm => h1 (by simpa using hm), fun e => absurd e hk'⟩
  · rw [← hp]; exact hr
theorem chainS_store {K : Act → Prop} {k : Nat} {o : Oper} {rest : List Oper} {a a1 : Act} (hk : decide (k = p) = true) (h : ∀ w, S0 w → wpList P ops (settled S1 a1) [o] a w) (hp : a1 = a.put o.dst (a1.eval (.tmp (o.dst.getD 0))))
    (hr : chainS P ops S0 S1 p fr K (k + 1) rest a1) : chainS P ops S0 S1 p fr K k (o :: rest) a := by
  have hk' := of_decide_eq_true hk
  refine .cons (a1.eval (.tmp (o.dst.getD 0))) ?_ ?_
  · rw [← hp]; exact ⟨fun e => absurd hk' e, fun e => absurd hk' e, fun _ => h⟩
  · rw [← hp]; exact hr
theorem chainS_acts {K : Act → Prop} : ∀ (l : List Oper) (n : Nat) (a : Act), chainS P ops S0 S1 p fr K n l a → ∃ F : Nat → Value, K (actAt l F a l.length) ∧ ∀ k o, l[k]? = some o → doesAt P ops S0 S1 p fr (n + k) o (actAt l F a k) (actAt l F a (k + 1))
  | [], n, a, .nil h => ⟨fun _ => undef, h, fun k o hk => by simp at hk⟩
  | o :: l, n, a, .cons v h1 h2 => by
    obtain ⟨F, hK, hF⟩ := chainS_acts l (n + 1) (a.put o.dst v) h2
    refine ⟨fun i => match i with | 0 => v | i + 1 => F i, ?_, fun k o' hk => ?_⟩
    · rw [List.length_cons, actAt_cons]
      exact hK
    · cases k with
      | zero =>
        simp at hk
        subst hk
        simpa [actAt] using h1
      | succ k =>
        have := hF k o' (by simpa using hk)
        rw [actAt_cons, actAt_cons, show n + (k + 1) = n + 1 + k by omega]
        exact this
/-- **A drawn region with one store**: S0 is what holds of the world ahead of the store, S1 behind it. -/
theorem wp_region_store {id : Nat} {l : List Oper} {a : Act} {w : World} (S0 S1 : World → Prop) (p : Nat) (fr : List Nat) (hm : P.follows .mixedOrders = true) (ho : orderly l.toArray = true) (hp : decide (p < l.length) = true) (hfr : storesLast l.toArray p fr = true) (hS : S0 w.drew)
    (h : chainS P l.toArray S0 S1 p fr (fun a' => ∀ w', S1 w' → Q .normal a' w') 0 l a) : (Code.region id l.toArray true).wp P Q a w := by
  have hp' := of_decide_eq_true hp
  obtain ⟨F, hK, hF⟩ := chainS_acts l 0 a h
  refine wp_region_any hm ?_
  refine wpAny_store ho hp' hfr (fun k o hk => by have := hF k o hk; rwa [Nat.zero_add] at this) hK _ _ a _ (by simp) (by simp [List.countP_replicate]) ⟨rfl, rfl, fun i o t hi _ hl => ?_, fun _ _ => rfl⟩ ⟨fun _ => hS, fun e => ?_, fun e => ?_⟩
  · have : i < l.length := (List.getElem?_eq_some_iff.1 hi).1
    simp [this] at hl
  · simp [hp'] at e
  · simp [hp'] at e
end
end Go.Proofs.YtpbflgemhcaooaaDoor
