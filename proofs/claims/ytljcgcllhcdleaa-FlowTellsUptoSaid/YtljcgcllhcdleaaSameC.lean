import Derived.Test.YtljcgcllhcdleaaSameB
/- The reference's comparison of flat instructions. -/
namespace Go.Proofs.Ytljcgcllhcdleaa
open Go.RowKit
set_option linter.unusedSimpArgs false
set_option linter.unusedVariables false
set_option maxRecDepth 4000 in
set_option maxHeartbeats 3200000 in
theorem sameFlat_any (f g : Ev.Flat) (u v : Value) (w : World) (hf : RFlat w w.heap.size u f) (hg : RFlat w w.heap.size v g) :
    Calls Try.prog 32 #[u, v] w fun e w' => e = .returned (.bool (decide (f = g))) ∧ Below w.heap.size w w' := by
  obtain ⟨vc, vs, va, rfl, hc, hs, ha⟩ := hf
  obtain ⟨vc', vs', va', rfl, hc', hs', ha'⟩ := hg
  obtain ⟨l, sl, fp, al⟩ := f
  obtain ⟨m, sm, gp, am⟩ := g
  dsimp only at hc hs ha hc' hs' ha' ⊢
  have HC := Lib.hid hc
  have HS := Lib.hid hs
  have HA := Lib.hid ha
  have HC' := Lib.hid hc'
  have HS' := Lib.hid hs'
  have HA' := Lib.hid ha'
  obtain ⟨A1, c1, rfl, hc1, hd1⟩ := SL.form hc
  obtain ⟨A2, c2, rfl, hc2, hd2⟩ := SL.form hs
  obtain ⟨A3, c3, rfl, hc3, hd3⟩ := SL.form ha
  obtain ⟨B1, k1, rfl, gc1, gd1⟩ := SL.form hc'
  obtain ⟨B2, k2, rfl, gc2, gd2⟩ := SL.form hs'
  obtain ⟨B3, k3, rfl, gc3, gd3⟩ := SL.form ha'
  unfold maxLen at hd1 hd2 hd3 gd1 gd2 gd3
  clear hc hs ha hc' hs' ha'
  go_enter Try.func32, Try.ntmps32
  by_cases h1 : l.length = m.length
  case neg =>
    go_wp2
    go_ret
    refine ⟨?_, by (repeat' (first | (with_reducible exact Below.refl _ _) | (with_reducible assumption) | (with_reducible refine Below.alloc ?_ ?_ _) | (with_reducible refine below_drewN ?_ _) | (with_reducible refine Below.drew ?_) | (with_reducible refine Below.setCell ?_ ?_ _) | (with_reducible refine Below.trans ?_ (Below.mono (by with_reducible assumption) ?_)) | go_size))⟩
    have : l ≠ m := fun e => h1 (by rw [e])
    simp [this]
  by_cases h2 : sl.length = sm.length
  case neg =>
    go_wp2
    go_ret
    refine ⟨?_, by (repeat' (first | (with_reducible exact Below.refl _ _) | (with_reducible assumption) | (with_reducible refine Below.alloc ?_ ?_ _) | (with_reducible refine below_drewN ?_ _) | (with_reducible refine Below.drew ?_) | (with_reducible refine Below.setCell ?_ ?_ _) | (with_reducible refine Below.trans ?_ (Below.mono (by with_reducible assumption) ?_)) | go_size))⟩
    have : sl ≠ sm := fun e => h2 (by rw [e])
    simp [this]
  by_cases h3 : fp = gp
  case neg =>
    go_wp2
    go_ret
    refine ⟨?_, by (repeat' (first | (with_reducible exact Below.refl _ _) | (with_reducible assumption) | (with_reducible refine Below.alloc ?_ ?_ _) | (with_reducible refine below_drewN ?_ _) | (with_reducible refine Below.drew ?_) | (with_reducible refine Below.setCell ?_ ?_ _) | (with_reducible refine Below.trans ?_ (Below.mono (by with_reducible assumption) ?_)) | go_size))⟩
    simp [h3]
  subst h3
  have l1 : m.length ≤ l.length := by omega
  have l2 : l.length ≤ m.length := by omega
  have l3 : sm.length ≤ sl.length := by omega
  have l4 : sl.length ≤ sm.length := by omega
  have e1 : ((l.length : Int) != (m.length : Int)) = false := by simp [h1]
  have e2 : ((sl.length : Int) != (sm.length : Int)) = false := by simp [h2]
  clear h1 h2
  by_cases h4 : al = am
  case neg =>
    have HN := Lib.hid h4
    have g1 : decide (al = am) = false := by simpa using h4
    clear h4
    go_wp2_with (go_at_call 20; refine (quiet_below (sameVars_is al am _ _ _ (SL.at_ HA.out (by (repeat' (first | (with_reducible exact Below.refl _ _) | (with_reducible assumption) | (with_reducible refine Below.alloc ?_ ?_ _) | (with_reducible refine below_drewN ?_ _) | (with_reducible refine Below.drew ?_) | (with_reducible refine Below.setCell ?_ ?_ _) | (with_reducible refine Below.trans ?_ (Below.mono (by with_reducible assumption) ?_)) | go_size))) (Nat.le_refl _)) (SL.at_ HA'.out (by (repeat' (first | (with_reducible exact Below.refl _ _) | (with_reducible assumption) | (with_reducible refine Below.alloc ?_ ?_ _) | (with_reducible refine below_drewN ?_ _) | (with_reducible refine Below.drew ?_) | (with_reducible refine Below.setCell ?_ ?_ _) | (with_reducible refine Below.trans ?_ (Below.mono (by with_reducible assumption) ?_)) | go_size))) (Nat.le_refl _)) _ g1)).mono ?_; rintro e w1 ⟨rfl, hb1⟩)
    go_wp2
    go_ret
    refine ⟨?_, by (repeat' (first | (with_reducible exact Below.refl _ _) | (with_reducible assumption) | (with_reducible refine Below.alloc ?_ ?_ _) | (with_reducible refine below_drewN ?_ _) | (with_reducible refine Below.drew ?_) | (with_reducible refine Below.setCell ?_ ?_ _) | (with_reducible refine Below.trans ?_ (Below.mono (by with_reducible assumption) ?_)) | go_size))⟩
    simp [HN.out]
  have HE := Lib.hid h4
  have g1 : decide (al = am) = true := by simpa using h4
  clear h4
  go_wp2_with (go_at_call 20; refine (sameVars_is al am _ _ _ (SL.at_ HA.out (by (repeat' (first | (with_reducible exact Below.refl _ _) | (with_reducible assumption) | (with_reducible refine Below.alloc ?_ ?_ _) | (with_reducible refine below_drewN ?_ _) | (with_reducible refine Below.drew ?_) | (with_reducible refine Below.setCell ?_ ?_ _) | (with_reducible refine Below.trans ?_ (Below.mono (by with_reducible assumption) ?_)) | go_size))) (Nat.le_refl _)) (SL.at_ HA'.out (by (repeat' (first | (with_reducible exact Below.refl _ _) | (with_reducible assumption) | (with_reducible refine Below.alloc ?_ ?_ _) | (with_reducible refine below_drewN ?_ _) | (with_reducible refine Below.drew ?_) | (with_reducible refine Below.setCell ?_ ?_ _) | (with_reducible refine Below.trans ?_ (Below.mono (by with_reducible assumption) ?_)) | go_size))) (Nat.le_refl _)) _ g1).mono ?_; rintro e w1 ⟨rfl, n1, rfl⟩)
  go_wp2_with fail
  go_loopw [41] (fun z wr => ∃ j : Nat, j ≤ l.length ∧ z = .int .i64 j ∧ Hid (l.take j = m.take j) ∧ ∃ n, wr = ((w.alloc (.cells #[.slice A1 l.length c1, .slice A2 sl.length c2, .int .i64 fp, .slice A3 al.length c3] 26)).alloc (.cells #[.slice B1 m.length k1, .slice B2 sm.length k2, .int .i64 fp, .slice B3 am.length k3] 26)).drewN n) (fun z _ => l.length - (intOf z).toNat)
  case atStart => exact ⟨0, by omega, rfl, by simp [Hid], by (first | exact ⟨0, rfl⟩ | exact ⟨_, rfl⟩ | (simp only [World.drewN_drewN, World.drew_is_drewN]; exact ⟨_, rfl⟩))⟩
  case round =>
    obtain ⟨j, hj, rfl, HT, nw, rfl⟩ := hrel
    by_cases hlt : j < l.length
    · obtain ⟨x, hx⟩ : ∃ x, l[j]? = some x := ⟨l[j], List.getElem?_eq_getElem hlt⟩
      obtain ⟨y, hy⟩ : ∃ y, m[j]? = some y := ⟨m[j]'(by omega), List.getElem?_eq_getElem _⟩
      obtain ⟨b1, o1, r1, hv, hb1, _, _, _, p0, p1, p2, p3, p4, p5⟩ := RCode.at_ HC.out hx
      injection hv with hA _ hcr
      subst hA hcr
      obtain ⟨b2, o2, r2, hv, hb2, _, _, _, q0, q1, q2, q3, q4, q5⟩ := RCode.at_ HC'.out hy
      injection hv with hA _ hcr
      subst hA hcr
      have HX := Lib.hid hx
      have HY := Lib.hid hy
      clear hx hy
      by_cases hxy : x = y
      · have hs := Lib.hid (take_snoc_same HT.out HX.out HY.out hxy)
        have hn := fun w => neq_instr x y w false (by simpa using hxy)
        unfold aggI at hn
        clear hxy
        go_wp2_with fail
        go_quiet (fail)
        go_wp2_with fail
        go_roundw
        case rel => exact ⟨j + 1, by omega, by go_num, hs, by (first | exact ⟨0, rfl⟩ | exact ⟨_, rfl⟩ | (simp only [World.drewN_drewN, World.drew_is_drewN]; exact ⟨_, rfl⟩))⟩
        case measure => simp [intOf]; omega
      · have hn := fun w => neq_instr x y w true (by simpa using hxy)
        unfold aggI at hn
        have HXY := Lib.hid hxy
        clear hxy
        go_wp2_with fail
        go_quiet (fail)
        go_wp2
        go_ret
        refine ⟨?_, by (repeat' (first | (with_reducible exact Below.refl _ _) | (with_reducible assumption) | (with_reducible refine Below.alloc ?_ ?_ _) | (with_reducible refine below_drewN ?_ _) | (with_reducible refine Below.drew ?_) | (with_reducible refine Below.setCell ?_ ?_ _) | (with_reducible refine Below.trans ?_ (Below.mono (by with_reducible assumption) ?_)) | go_size))⟩
        simp [get_neq HX.out HY.out HXY.out]
    · have HLM := Lib.hid (show l = m by
        have h := HT.out
        rw [List.take_of_length_le (by omega), List.take_of_length_le (by omega)] at h
        exact h)
      have hje : j = l.length := by omega
      subst hje
      clear HT
      go_wp2_with fail
      go_loopw [59] (fun z wr => ∃ j : Nat, j ≤ sl.length ∧ z = .int .i64 j ∧ Hid (sl.take j = sm.take j) ∧ ∃ n, wr = ((w.alloc (.cells #[.slice A1 l.length c1, .slice A2 sl.length c2, .int .i64 fp, .slice A3 al.length c3] 26)).alloc (.cells #[.slice B1 m.length k1, .slice B2 sm.length k2, .int .i64 fp, .slice B3 am.length k3] 26)).drewN n) (fun z _ => sl.length - (intOf z).toNat)
      case atStart => exact ⟨0, by omega, rfl, by simp [Hid], by (first | exact ⟨0, rfl⟩ | exact ⟨_, rfl⟩ | (simp only [World.drewN_drewN, World.drew_is_drewN]; exact ⟨_, rfl⟩))⟩
      case round =>
        obtain ⟨j, hj, rfl, HT, nw2, rfl⟩ := hrel
        by_cases hlt : j < sl.length
        · obtain ⟨b1, o1, r1, hv, hb1, _, _, p0⟩ := RBools.row HS.out (by omega)
          injection hv with hA _ hcr
          subst hA hcr
          obtain ⟨b2, o2, r2, hv, hb2, _, _, q0⟩ := RBools.row HS'.out (by omega)
          injection hv with hA _ hcr
          subst hA hcr
          have p1 := p0 j (by omega)
          have q1 := q0 j (by omega)
          clear p0 q0
          have hx : sl[j]? = some (Ev.sec sl j) := by simp [Ev.sec, hlt]
          have hy : sm[j]? = some (Ev.sec sm j) := by
            have : j < sm.length := by omega
            simp [Ev.sec, this]
          have HX := Lib.hid hx
          have HY := Lib.hid hy
          clear hx hy
          generalize Ev.sec sl j = x at *
          generalize Ev.sec sm j = y at *
          by_cases hxy : x = y
          · have hs := Lib.hid (take_snoc_same HT.out HX.out HY.out hxy)
            subst hxy
            go_wp2_with fail
            go_quiet (fail)
            go_wp2_with fail
            go_roundw
            case rel => refine ⟨j + 1, by omega, by go_num, hs, ?_⟩; (first | exact ⟨0, rfl⟩ | exact ⟨_, rfl⟩ | (simp only [World.drewN_drewN, World.drew_is_drewN]; exact ⟨_, rfl⟩))
            case measure => simp [intOf]; omega
          · have HXY := Lib.hid (get_neq HX.out HY.out hxy)
            clear HX HY
            cases x <;> cases y <;> simp at hxy
            all_goals
              go_wp2_with fail
              go_quiet (fail)
              go_wp2
              go_ret
              refine ⟨?_, by (repeat' (first | (with_reducible exact Below.refl _ _) | (with_reducible assumption) | (with_reducible refine Below.alloc ?_ ?_ _) | (with_reducible refine below_drewN ?_ _) | (with_reducible refine Below.drew ?_) | (with_reducible refine Below.setCell ?_ ?_ _) | (with_reducible refine Below.trans ?_ (Below.mono (by with_reducible assumption) ?_)) | go_size))⟩
              simp [HXY.out]
        · have HSS := Lib.hid (show sl = sm by
            have h := HT.out
            rw [List.take_of_length_le (by omega), List.take_of_length_le (by omega)] at h
            exact h)
          go_wp2
          go_ret
          refine ⟨?_, by (repeat' (first | (with_reducible exact Below.refl _ _) | (with_reducible assumption) | (with_reducible refine Below.alloc ?_ ?_ _) | (with_reducible refine below_drewN ?_ _) | (with_reducible refine Below.drew ?_) | (with_reducible refine Below.setCell ?_ ?_ _) | (with_reducible refine Below.trans ?_ (Below.mono (by with_reducible assumption) ?_)) | go_size))⟩
          simp [HLM.out, HSS.out, HE.out]
end Go.Proofs.Ytljcgcllhcdleaa
