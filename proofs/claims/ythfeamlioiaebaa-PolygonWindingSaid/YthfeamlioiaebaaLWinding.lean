/- PolygonWinding: for every slice of slices of points, every slice of points, every byte and every point the function returns true, and all that was there is as it was. -/
import Derived.Test.YthfeamlioiaebaaOpen
import Derived.Test.YthfeamlioiaebaaRingLaw
import Derived.Test.YthfeamlioiaebaaRows2
import Derived.Test.YthfeamlioiaebaaLBounds
set_option linter.unusedVariables false
set_option linter.unusedSimpArgs false
namespace Go.Proofs.Ythfeamlioiaebaa
open Go.ChangeShapes Go.WideShapes Go.ChangeAt Go.RowKit Go.Par Go.Deep Go.Joins

set_option maxRecDepth 100000 in
set_option maxHeartbeats 3200000 in
theorem polygonWinding_any (L : List (List P2)) (A : Option Addr) (c : Nat) (one : List P2) (A1 : Option Addr) (c1 : Nat) (kn : Nat) (px py : Int) (w : World) (hc : L.length ≤ 17592186044416) (hL : RingsAt w A L) (hLc : L.length ≤ c)
    (hc1 : one.length ≤ c1) (hb1 : one.length ≤ 17592186044416) (hP : PtsAt w A1 one) (hk : kn ≤ 255) :
    Calls Try.prog 5 #[.slice A L.length c, .slice A1 one.length c1, .int .u8 kn, .agg #[.int .i64 px, .int .i64 py]] w fun e w' => e = .returned (.bool true) ∧ Ext w w' := by
  have HF := Lib.hid (fun W (h : Ext w W) => few_any L A c W hc (hL.ext h))
  have HRW := Lib.hid (show Rings w (.slice A L.length c) L from ⟨A, c, rfl, hLc, hc, hL⟩)
  obtain ⟨n, hn⟩ : ∃ n, n = one.length := ⟨_, rfl⟩
  rw [← hn] at hc1 hb1 ⊢
  have HN := Lib.hid hn
  clear hn
  have HW := Lib.hid (fun W (h : Ext w W) => Winding_any L A c px py W hc (hL.ext h))
  have HV := Lib.hid (fun W (h : Ext w W) => Valid_any L A c W hc (hL.ext h))
  obtain ⟨m, hm⟩ : ∃ m, m = L.length := ⟨_, rfl⟩
  rw [← hm] at HF HRW HW HV hc hLc ⊢
  have HM := Lib.hid hm
  clear hm
  go_enter Try.func5, Try.ntmps5
  go_wp2_with fail
  refine (HF.out _ (Ext.alloc _ _)).mono ?_
  rintro e w1 ⟨rfl, hE⟩
  have B := (Box.new w 24 #[.int .i64 px, .int .i64 py]).ext hE
  have hE' := (Ext.alloc _ _).trans hE
  clear hE
  by_cases hg : fewL L = true ∧ n ≤ 100 ∧ n ≠ 0
  · obtain ⟨hf, hn1, hn0⟩ := hg
    rw [hf]
    obtain ⟨t, ht⟩ : ∃ t, t = kn % n := ⟨_, rfl⟩
    have htn : t < n := by rw [ht]; exact Nat.mod_lt _ (by omega)
    have q1 : (kn : Int).tmod (n : Int) = (t : Int) := by rw [ht]; rfl
    have q2 : (kn : Int) % (n : Int) = (t : Int) := by rw [ht]; rfl
    have htl : t ≤ n := by omega
    have htc : ¬ c1 = t := by omega
    have htcc : t ≤ c1 := by omega
    clear ht
    obtain ⟨b, o, rfl, hcell⟩ := hP (fun e => hn0 (by rw [HN.out, e]; rfl))
    go_wp2_with fail
    apply wp_region_par' 8 (by kernel_rfl) (by kernel_rfl) rfl
    simp only [List.take_succ_cons, List.take_zero, List.drop_succ_cons, List.drop_zero]
    generalize hW : World.drew _ = W
    have hEW : Ext w W := by rw [← hW]; exact hE'.trans (Ext.drew _)
    have BW : Box W w.heap.size 24 #[.int .i64 px, .int .i64 py] := by rw [← hW]; exact B.drew
    clear hW
    refine parW_newRow (t := 24) (n := 0) (cs := #[]) rfl rfl rfl (by simp) (fun w1 => by kernel_rfl) ?_
    iterate 3
      refine parW_step rfl (fun K hK => ?_)
      apply Exists.intro
      refine ⟨fun z => ?_, ?_⟩
      focus
        go_simp
        first
          | rfl
          | rfl
      go_simp
      refine hK _ ?_
      clear hK K
    refine parW_rel rfl (ROwn.stable W.heap.size (one.drop t)) (fun x => ?_) ?_
    · intro v hv
      obtain ⟨b0, rfl, hb0, hbx⟩ := hv (show Nat.testBit _ _ = true from by kernel_rfl)
      obtain ⟨v', w', hr, hown, hE2⟩ := run_app0 38 (w := x.val) (B := W.heap.size) (b := b0) (l := one.drop t) (sv := .slice (some ⟨b, o + t * 2, none⟩) (n - t) (c1 - t))
        ⟨_, c1 - t, by rw [List.length_drop, ← HN.out], by rw [List.length_drop, ← HN.out]; omega, by rw [List.length_drop, ← HN.out]; omega, (hP.ext (hEW.later x)).drop t⟩ (by rw [List.length_drop, ← HN.out]; omega) x.prop.size hb0 hbx
      exact relStep_app rfl _ _ _ rfl rfl rfl hr hE2 ⟨hown, Nat.le_trans x.prop.size hE2.size⟩
    iterate 3
      refine parW_step rfl (fun K hK => ?_)
      apply Exists.intro
      refine ⟨fun z => ?_, ?_⟩
      focus
        go_simp
        first
          | rfl
          | rfl
      go_simp
      refine hK _ ?_
      clear hK K
    refine parW_fin (fun z => ?_)
    rintro v1 ⟨b0, rfl, _, _⟩ v2 ⟨hown, hsz⟩ hp
    clear hp
    have hWZ := z.prop
    have hPz := (hP.ext hEW).ext hWZ
    generalize z.val = Z at *
    have htk : Pts Z (.slice (some ⟨b, o, none⟩) t c1) (one.take t) := ⟨_, c1, by rw [List.length_take, ← HN.out, Nat.min_eq_left (by omega)], by rw [List.length_take, ← HN.out]; omega, by rw [List.length_take, ← HN.out]; omega, hPz.take t⟩
    have hlen : (one.drop t).length + (one.take t).length ≤ 1000000000 := by rw [List.length_drop, List.length_take, ← HN.out]; omega
    clear z hPz
    simp only [Act.put, List.setIfInBounds_toArray, List.set_cons_succ, List.set_cons_zero]
    go_wp2_with (at_builtin; refine wpList_app rfl _ _ rfl W.heap.size _ _ _ _ rfl rfl hown htk hlen hsz ?_; intro v3 w3 hown3 hg3)
    have hE3 := Ext.grow hWZ hown (Nat.le_refl _) hg3
    clear hown hg3 htk hlen hsz hWZ
    have hrl : (one.drop t ++ one.take t).length = n := by rw [List.length_append, List.length_drop, List.length_take, ← HN.out]; omega
    have hvl : one.reverse.length = n := by rw [List.length_reverse, ← HN.out]
    have hlaw1 := windL_rot one t (by rw [← HN.out]; omega) (px, py)
    have hlaw2 := windL_reverse one (px, py)
    have hlaw3 := areaS_rot one t (by rw [← HN.out]; omega)
    have hlaw4 := areaS_reverse one
    have hlaw5 := windL_append L one (px, py)
    have hrev0 : one.drop 0 = one := List.drop_zero
    have HREV := Lib.hid (show ∀ j : Nat, j < n → ∃ x y, one[j]? = some (x, y) ∧ (one.drop j).reverse = (one.drop (j + 1)).reverse ++ [(x, y)] from fun j hj => by
      have hj' : j < one.length := by rw [← HN.out]; exact hj
      exact ⟨one[j].1, one[j].2, List.getElem?_eq_getElem hj', by rw [List.drop_eq_getElem_cons hj', List.reverse_cons]⟩)
    obtain ⟨rot, hrot⟩ : ∃ rot, rot = one.drop t ++ one.take t := ⟨_, rfl⟩
    rw [← hrot] at hown3 hrl hlaw1 hlaw3
    clear hrot
    obtain ⟨A3, c3, rfl, hlc3, hP3⟩ := hown3.at hrl hb1
    have hS3 := hE3.size
    have hSW := hEW.size
    have HRL := Lib.hid hrl.symm
    have HVL := Lib.hid hvl.symm
    have HL1 := Lib.hid hlaw1; have HL2 := Lib.hid hlaw2; have HL3 := Lib.hid hlaw3; have HL4 := Lib.hid hlaw4; have HL5 := Lib.hid hlaw5
    clear hrl hvl hlaw1 hlaw2 hlaw3 hlaw4 hlaw5 hrev0 hown3
    go_wp2_with fail
    go_loopw [11, 12] (fun s i wr => ∃ j : Nat, j ≤ n ∧ i = .int .i64 ((j : Int) - 1) ∧ Ext w3 wr ∧ Own wr w3.heap.size s (one.drop j).reverse) (fun _ i _ => (intOf i + 1).toNat)
    case atStart => exact ⟨n, Nat.le_refl _, rfl, Ext.alloc _ _, by rw [List.drop_eq_nil_of_le (by rw [← HN.out]; omega)]; exact Own.made w3⟩
    case round =>
      obtain ⟨j, hj, rfl, hE4, hown4⟩ := hrel
      have hS4 := hE4.size
      have hE5 := hE3.trans hE4
      have hE0 := hEW.trans hE5
      by_cases hj0 : j = 0
      · subst hj0
        rw [List.drop_zero] at hown4
        obtain ⟨A4, c4, rfl, hlc4, hP4⟩ := hown4.at HVL.out.symm hb1
        have BB := BW.ext hE5
        have hP3' := hP3.ext hE4
        have kB := BB.cell
        have HH := Lib.hid (wind1_any one (some ⟨b, o, none⟩) n c1 px py wr HN.out hc1 hb1 (hP.ext hE0))
        clear BW hE4 hE5 hown4 hP3
        go_wp2_with fail
        refine HH.out.mono ?_
        rintro e w5 ⟨rfl, hE6⟩
        have hE7 := hE0.trans hE6
        have BC := BB.ext hE6
        have hP3 := hP3'.ext hE6
        have hP4' := hP4.ext hE6
        clear hE6 hE0 BB hP3' hP4 kB HH
        have hnb := windL_bd [one] (px, py)
        have hLb := windL_bd L (px, py)
        obtain ⟨vs, hrows, hsrc⟩ := HRW.out.rows
        have hvs : vs.length ≤ 40 := by rw [hrows.1]; exact (fewL_len hf).1
        have hsz5 : w5.heap.size ≤ (w5.alloc (.cells #[] 38)).heap.size := by simp
        go_wp2_with (first | (at_builtin; refine wpList_appR rfl _ _ rfl w5.heap.size _ _ [] vs rfl rfl (OwnR.made w5) (hsrc.ext (hE7.trans (Ext.alloc _ _))) (by simp; omega) hsz5 ?_; intro v6 w6 hown6 hg6) | (at_builtin; refine wpList_appR rfl _ _ rfl w5.heap.size _ _ vs [.slice (some ⟨b, o, none⟩) n c1] rfl rfl (hown6.ext (Ext.alloc _ _)) (Src.row (Box.new _ _ _)) (by simp; omega) (by have := hg6.size; simp at this ⊢; omega) ?_; intro v7 w7 hown7 hg7))
        have hE8 : Ext w5 w6 := Ext.grow (Ext.alloc w5 _) (OwnR.made w5) (Nat.le_refl _) hg6
        have hE9 : Ext w5 w7 := Ext.grow (hE8.trans (Ext.alloc _ _)) (hown6.ext (Ext.alloc _ _)) (Nat.le_refl _) hg7
        have hE10 := hE7.trans hE9
        have hR7 : Rings w7 v7 (L ++ [one]) := hown7.rings ((hrows.ext hE10).snoc ⟨_, c1, by rw [HN.out], by rw [← HN.out]; exact hc1, by rw [← HN.out]; exact hb1, hP.ext hE10⟩) (by have := (fewL_len hf).1; rw [List.length_append]; simp; omega)
        obtain ⟨A7, c7, rfl, hlc7, hlb7, hR7⟩ := hR7
        have HVb := Lib.hid (fun W (h : Ext w7 W) => Valid_any (L ++ [one]) A7 c7 W hlb7 (hR7.ext h))
        have HWb := Lib.hid (fun W (h : Ext w7 W) => Winding_any (L ++ [one]) A7 c7 px py W hlb7 (hR7.ext h))
        have BD := BC.ext hE9
        have hP5 := hP3.ext hE9
        have hP6 := hP4'.ext hE9
        have har := areaS_bd one
        have hP7 := hP.ext hE10
        have hl5 := HL5.out
        clear hg6 hg7 hown6 hown7 hE8 hE9 hE7 hR7 hlb7 hlc7 BC hP3 hP4' hrows hsrc hvs hsz5 HRW HF HM hL B hE' hf hE3 hcell HREV hS4 HL5 hP hEW
        generalize (L ++ [one]).length = mb at *
        generalize windL L (px, py) = nL at *
        have HLR := Lib.hid (fun W hP => wind1_any rot A3 n c3 px py W HRL.out hlc3 hb1 hP)
        rw [HL1.out] at HLR
        have HLV := Lib.hid (fun W hP => wind1_any one.reverse A4 n c4 px py W HVL.out hlc4 hb1 hP)
        rw [HL2.out] at HLV
        have HAR := Lib.hid (fun W hP => DoubleArea_any rot A3 c3 n W HRL.out hlc3 hb1 hP)
        rw [HL3.out] at HAR
        have HAV := Lib.hid (fun W hP => DoubleArea_any one.reverse A4 c4 n W HVL.out hlc4 hb1 hP)
        rw [HL4.out] at HAV
        have HAO := Lib.hid (fun W hP => DoubleArea_any one (some ⟨b, o, none⟩) c1 n W HN.out hc1 hb1 hP)
        generalize windL [one] (px, py) = nn at *
        generalize areaS one = ar at *
        have HL5 := Lib.hid hl5
        clear HL1 HL2 HL3 HL4 hl5
        have q5 : IntKind.i64.wrap (nL + nn) = nL + nn := IntWalk.i64_in _ (by omega)
        have q6 : IntKind.i64.wrap (-nn) = -nn := IntWalk.i64_in _ (by omega)
        have q7 : IntKind.i64.wrap (-ar) = -ar := IntWalk.i64_in _ (by omega)
        have HREST : ∀ (Zw : World) , Ext w7 Zw → Ext w Zw ∧ Box Zw w.heap.size 24 #[.int .i64 px, .int .i64 py] ∧ PtsAt Zw A3 rot ∧ PtsAt Zw A4 one.reverse ∧ PtsAt Zw (some ⟨b, o, none⟩) one := fun Zw h => ⟨hE10.trans h, BD.ext h, hP5.ext h, hP6.ext h, hP7.ext h⟩
        have HRS := Lib.hid HREST
        clear HREST
        have hcase : validL L = false ∨ (validL L = true ∧ validL (L ++ [one]) = false) ∨ (validL L = true ∧ validL (L ++ [one]) = true ∧ windL (L ++ [one]) (px, py) = nL + nn) := by
          cases h1 : validL L
          · exact .inl rfl
          · cases h2 : validL (L ++ [one])
            · exact .inr (.inl ⟨rfl, rfl⟩)
            · exact .inr (.inr ⟨rfl, rfl, (HL5.out h2).2⟩)
        clear HL5 HN HRL HVL
        rcases hcase with h1 | ⟨h1, h2⟩ | ⟨h1, h2, h3⟩
        all_goals
          rw [h1] at HV
          first
          | rw [h2] at HVb
          | skip
          first
          | rw [h3] at HWb
          | skip
          clear BD hP5 hP6 hP7
          go_wp2_with fail
          apply wp_region_par' 17 (by kernel_rfl) (by kernel_rfl) rfl
          simp only [List.take_succ_cons, List.take_zero, List.drop_succ_cons, List.drop_zero]
          generalize hW : World.drew _ = W9
          have hE11 : Ext w7 W9 := by rw [← hW]; exact Ext.drew _
          clear hW
          have BW9 := (HRS.out _ hE11).2.1
          have k9 := BW9.lcell
          iterate 17
            refine parW_step rfl (fun K hK => ?_)
            apply Exists.intro
            refine ⟨fun z => ?_, ?_⟩
            focus
              go_simp
              first
                | rfl
                | with_reducible exact calls_val (HV.out _ (hE10.trans (hE11.later z)))
                | with_reducible exact calls_val (HVb.out _ (hE11.later z))
                | with_reducible exact calls_val (HWb.out _ (hE11.later z))
                | with_reducible exact calls_val (HW.out _ (hE10.trans (hE11.later z)))
            go_simp
            refine hK _ ?_
            clear hK K
          refine parW_end (fun z => ?_)
          obtain ⟨f1, f2, f3, f4, f5⟩ := HRS.out _ (hE11.later z)
          generalize z.val = Z9 at *
          have k2 := f2.cell
          clear k9
          go_wp2_with fail
          refine (HLR.out _ f3).mono ?_
          rintro e u1 ⟨rfl, g1⟩
          have F1 := f1.trans g1; have F2 := f2.ext g1; have F4 := f4.ext g1; have F3 := f3.ext g1; have F5 := f5.ext g1
          clear f1 f2 f3 f4 f5 g1 k2
          have k2 := F2.cell
          go_wp2_with fail
          refine (HLV.out _ F4).mono ?_
          rintro e u2 ⟨rfl, g2⟩
          have f1 := F1.trans g2; have f3 := F3.ext g2; have f4 := F4.ext g2; have f5 := F5.ext g2
          clear F1 F2 F3 F4 F5 g2 k2
          go_wp2_with fail
          refine (HAR.out _ f3).mono ?_
          rintro e u3 ⟨rfl, g3⟩
          have F1 := f1.trans g3; have F4 := f4.ext g3; have F5 := f5.ext g3
          clear f1 f3 f4 f5 g3
          go_wp2_with fail
          refine (HAO.out _ F5).mono ?_
          rintro e u4 ⟨rfl, g4⟩
          have f1 := F1.trans g4; have f4 := F4.ext g4; have f5 := F5.ext g4
          clear F1 F4 F5 g4
          go_wp2_with fail
          refine (HAV.out _ f4).mono ?_
          rintro e u5 ⟨rfl, g5⟩
          have F1 := f1.trans g5; have F5 := f5.ext g5
          clear f1 f4 f5 g5
          go_wp2_with fail
          refine (HAO.out _ F5).mono ?_
          rintro e u6 ⟨rfl, g6⟩
          have f1 := F1.trans g6
          clear F1 F5 g6
          go_wp2_with fail
          refine (example_any _).mono ?_
          rintro e u7 ⟨rfl, g7⟩
          go_wp2
          go_ret
          exact ⟨rfl, f1.trans g7⟩
      · obtain ⟨i, rfl⟩ : ∃ i, j = i + 1 := ⟨j - 1, by omega⟩
        have ei : ((i + 1 : Nat) : Int) - 1 = (i : Int) := by omega
        rw [ei]
        obtain ⟨x, y, hlk, hrv⟩ := HREV.out i (by omega)
        have e0 := hE0.cell (hcell i _ hlk).1
        have e1 := hE0.cell (hcell i _ hlk).2
        have hlen : (one.drop (i + 1)).reverse.length + 1 ≤ 1000000000 := by rw [List.length_reverse, List.length_drop, ← HN.out]; omega
        have HRV := Lib.hid hrv
        have hin : i < n := by omega
        clear hlk hrv hcell ei
        go_wp2_with (at_builtin; refine wpList_app rfl _ _ rfl w3.heap.size _ _ _ _ rfl rfl (hown4.ext (Ext.alloc _ _)) (Pts.one (Box.new _ _ _)) hlen (by simp; omega) ?_; intro v' w' hown' hg)
        have hE6 := Ext.grow (hE4.trans (Ext.alloc _ _)) (hown4.ext (Ext.alloc _ _)) (Nat.le_refl _) hg
        go_roundw
        case rel => exact ⟨i, by omega, by go_num, hE6, by rw [HRV.out]; exact hown'⟩
        case measure => simp [intOf]
  · by_cases hf : fewL L = true
    · have hn' : 100 < n ∨ n = 0 := by
        rcases Nat.lt_or_ge 100 n with h | h
        · exact .inl h
        · exact .inr (Decidable.byContradiction fun h0 => hg ⟨hf, h, h0⟩)
      rw [hf]
      clear hg
      rcases hn' with h | h
      · go_wp2_with fail
        refine (example_any _).mono ?_
        rintro e w2 ⟨rfl, hE2⟩
        go_wp2
        go_ret
        exact ⟨rfl, hE'.trans hE2⟩
      · subst h
        go_wp2_with fail
        refine (example_any _).mono ?_
        rintro e w2 ⟨rfl, hE2⟩
        go_wp2
        go_ret
        exact ⟨rfl, hE'.trans hE2⟩
    · rw [Bool.not_eq_true] at hf
      rw [hf]
      clear hg
      go_wp2_with fail
      refine (example_any _).mono ?_
      rintro e w2 ⟨rfl, hE2⟩
      go_wp2
      go_ret
      exact ⟨rfl, hE'.trans hE2⟩
end Go.Proofs.Ythfeamlioiaebaa
