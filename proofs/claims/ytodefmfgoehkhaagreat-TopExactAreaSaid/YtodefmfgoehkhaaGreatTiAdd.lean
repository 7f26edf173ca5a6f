/- integer: Add, Sub, Mul, Cmp. -/
import Derived.Test.YtodefmfgoehkhaaGreatZI
set_option linter.unusedVariables false
set_option linter.unusedSimpArgs false
namespace Go.Proofs.YtodefmfgoehkhaaGreat
open Go.RowKit Go.Par Go.TN

theorem newV {b : Bool} {v : Value} {k : Nat} {w : World} (h : NV w v k) (hn : L k ≤ 400000000) :
    Calls Tryz.prog 45 #[.bool b, v] w fun e w' => ∃ v, e = .returned v ∧ Ext w w' ∧ IV w' v (mkI b k) := by
  obtain ⟨A, n, c, rfl, h⟩ := h
  exact newI h (by rw [h.len]; exact hn)
/-- the end of a function with one result of two cells -/
theorem IV.put {w w1 : World} {g : Nat} {b' : Bool} {A' : Option Addr} {n' c' : Nat} {v : Value} {z : Int} (h : IV w1 v z) (hg : Box w1 g 27 #[.bool b', .slice A' n' c']) (hgw : w.heap.size ≤ g) (hE : Ext w w1) :
    ∃ b A n c, v = .agg #[.bool b, .slice A n c] ∧ Ext w ((w1.setCell ⟨g, 0, none⟩ (.bool b)).setCell ⟨g, 1, none⟩ (.slice A n c)) ∧ IV ((w1.setCell ⟨g, 0, none⟩ (.bool b)).setCell ⟨g, 1, none⟩ (.slice A n c)) (.agg #[.bool b, .slice A n c]) z := by
  obtain ⟨b, A, n, c, rfl, h⟩ := h
  obtain ⟨h1, h2⟩ := putInt hg hgw hE h
  exact ⟨b, A, n, c, rfl, h1, _, _, _, _, rfl, h2⟩
set_option maxHeartbeats 400000 in
theorem addI {b1 b2 : Bool} {A1 A2 : Option Addr} {n1 n2 c1 c2 : Nat} {z1 z2 : Int} {w : World} (h1 : IS w b1 A1 n1 c1 z1) (h2 : IS w b2 A2 n2 c2 z2) (hn1 : n1 ≤ 300000000) (hn2 : n2 ≤ 300000000) :
    Calls Tryz.prog 35 #[.agg #[.bool b1, .slice A1 n1 c1], .agg #[.bool b2, .slice A2 n2 c2]] w fun e w' => ∃ v, e = .returned v ∧ Ext w w' ∧ IV w' v (z1 + z2) := by
  have hE := ((Ext.alloc w (.cells #[.bool b1, .slice A1 n1 c1] 27)).trans (Ext.alloc _ (.cells #[.bool b2, .slice A2 n2 c2] 27))).trans (Ext.alloc _ (.cells #[.bool false, .slice none 0 0] 27))
  have x0 := ((Box.new w 27 #[.bool b1, .slice A1 n1 c1]).alloc (.cells #[.bool b2, .slice A2 n2 c2] 27)).alloc (.cells #[.bool false, .slice none 0 0] 27)
  have x1 := (Box.at1 (w := w) (o := .cells #[.bool b1, .slice A1 n1 c1] 27) (t := 27) (cs := #[.bool b2, .slice A2 n2 c2])).alloc (.cells #[.bool false, .slice none 0 0] 27)
  have x2 := Box.at2 (w := w) (o := .cells #[.bool b1, .slice A1 n1 c1] 27) (o' := .cells #[.bool b2, .slice A2 n2 c2] 27) (t := 27) (cs := #[.bool false, .slice none 0 0])
  have l1 := h1.ns.len
  have l2 := h2.ns.len
  have l3 := L_add z1.natAbs z2.natAbs
  have l4 := L_le (show z1.natAbs - z2.natAbs ≤ z1.natAbs from Nat.sub_le _ _)
  have l5 := L_le (show z2.natAbs - z1.natAbs ≤ z2.natAbs from Nat.sub_le _ _)
  have e1 := h1.neg
  have e2 := h2.neg
  by_cases hb : b1 = b2
  · subst hb
    have hz : mkI b1 (z1.natAbs + z2.natAbs) = z1 + z2 := by
      have : decide (z1 < 0) = decide (z2 < 0) := e1.symm.trans e2
      rw [e1]
      unfold mkI
      by_cases h0 : z1 < 0
      · have h3 : z2 < 0 := by simpa [h0] using this
        simp [h0]; omega
      · have h3 : ¬ z2 < 0 := by simpa [h0] using this
        simp [h0]; omega
    have HADD := Lib.hid (fun W (he : Ext w W) => addSn (h1.ns.ext he) (h2.ns.ext he) (by omega) (by omega))
    have HNEW := Lib.hid (fun W v (he : NV W v (z1.natAbs + z2.natAbs)) => newV (b := b1) he (by omega))
    rw [hz] at HNEW
    clear h1 h2 l1 l2 l3 l4 l5 e1 e2 hz
    go_enter Tryz.func35, Tryz.ntmps35
    go_wp2_with fail
    apply wp_region_par' 8 (by kernel_rfl) (by kernel_rfl) rfl
    simp only [List.take_succ_cons, List.take_zero, List.drop_succ_cons, List.drop_zero]
    generalize hW : World.drew _ = W
    have hEW : Ext w W := by rw [← hW]; exact hE.trans (Ext.drew _)
    replace x0 : Box W w.heap.size 27 #[.bool b1, .slice A1 n1 c1] := by rw [← hW]; exact x0.drew
    replace x1 : Box W (w.heap.size + 1) 27 #[.bool b1, .slice A2 n2 c2] := by rw [← hW]; exact x1.drew
    replace x2 : Box W (w.heap.size + 1 + 1) 27 #[.bool false, .slice none 0 0] := by rw [← hW]; exact x2.drew
    clear hW
    have z0 := x0.lcell
    have z1' := x1.lcell
    iterate 6
      refine parW_step rfl (fun K hK => ?_)
      apply Exists.intro
      refine ⟨fun z => ?_, ?_⟩
      focus
        go_simp
        first
          | rfl
          | fail
      go_simp
      refine hK _ ?_
      clear hK K
    refine parW_rel rfl (NV.stable (z1.natAbs + z2.natAbs)) (fun x => ?_) ?_
    · have hc := HADD.out x.val (hEW.later x)
      simp only [Giv]
      go_simp
      exact calls_rel hc
    refine parW_rel rfl (IV.stable (z1 + z2)) (fun x => ?_) ?_
    · intro v1 hv1
      have g1 := hv1 (show Nat.testBit _ _ = true from by kernel_rfl)
      have hc := HNEW.out x.val v1 g1
      simp only [Giv]
      go_simp
      exact calls_rel hc
    refine parW_fin (fun z => ?_)
    rintro v1 hv1 v2 hv2 hp
    simp only [Act.put, List.setIfInBounds_toArray, List.set_cons_succ, List.set_cons_zero]
    obtain ⟨b, A, n, c, rfl, hEf, gf⟩ := IV.put hv2 (x2.later z) (by omega) (hEW.later z)
    have c4 := (x2.later z).cell
    have f4 := (x2.later z).frozen
    clear hv1 hv2 hp z0 z1' HADD HNEW x0 x1 x2
    generalize z.val = Z at *
    go_wp2
    exact bodyPost_ret (v := .agg #[.bool b, .slice A n c]) (by simp [results, Tryz.results35, go_sem, c4, f4]) rfl ⟨_, rfl, hEf, gf⟩
  · by_cases hlt : z1.natAbs < z2.natAbs
    · have hz : mkI b2 (z2.natAbs - z1.natAbs) = z1 + z2 := by
        rw [e2]
        unfold mkI
        by_cases h0 : z2 < 0
        · have h3 : ¬ z1 < 0 := fun h => hb (by rw [e1, e2]; simp [h0, h])
          simp [h0]; omega
        · have h3 : z1 < 0 := by
            rcases Int.lt_or_le z1 0 with h | h
            · exact h
            · exact absurd (by rw [e1, e2]; simp [h0, show ¬ z1 < 0 by omega]) hb
          simp [h0]; omega
      have HS1 := Lib.hid (subNoS (h1.ns.ext hE) (h2.ns.ext hE) (by omega) (by omega) hlt)
      have HS2 := Lib.hid (fun W (he : Ext w W) => subSn (h2.ns.ext he) (h1.ns.ext he) (by omega) (by omega) (Nat.le_of_lt hlt))
      have HNEW := Lib.hid (fun W v (he : NV W v (z2.natAbs - z1.natAbs)) => newV (b := b2) he (by omega))
      rw [hz] at HNEW
      have hb2 : (b1 == b2) = false := by cases b1 <;> cases b2 <;> first | rfl | exact absurd rfl hb
      clear h1 h2 l1 l2 l3 l4 l5 e1 e2 hz hlt
      go_enter Tryz.func35, Tryz.ntmps35
      go_wp2_with fail
      refine HS1.out.mono ?_
      rintro e w1 ⟨rfl, hE1⟩
      replace hE := hE.trans hE1
      replace x0 := x0.ext hE1
      replace x1 := x1.ext hE1
      replace x2 := x2.ext hE1
      have y0 := x0.cell
      have y1 := x1.cell
      clear hE1
      go_wp2_with fail
      refine (HS2.out _ hE).mono ?_
      rintro e w2 ⟨v, rfl, hE2, g2⟩
      replace hE := hE.trans hE2
      clear y0 y1
      have y0 := (x1.ext hE2).cell
      replace x2 := x2.ext hE2
      clear x0 x1 hE2
      go_wp2_with fail
      refine (HNEW.out _ _ g2).mono ?_
      rintro e w3 ⟨v, rfl, hE3, g3⟩
      replace x2 := x2.ext hE3
      obtain ⟨b, A, n, c, rfl, hEf, gf⟩ := IV.put g3 x2 (by omega) (hE.trans hE3)
      have c4 := x2.cell
      have f4 := x2.frozen
      clear g2 g3 y0 HNEW HS1 HS2 x2 hE hE3
      go_wp2
      exact bodyPost_ret (v := .agg #[.bool b, .slice A n c]) (by simp [results, Tryz.results35, go_sem, c4, f4]) rfl ⟨_, rfl, hEf, gf⟩
    · have hz : mkI b1 (z1.natAbs - z2.natAbs) = z1 + z2 := by
        rw [e1]
        unfold mkI
        by_cases h0 : z1 < 0
        · have h3 : ¬ z2 < 0 := fun h => hb (by rw [e1, e2]; simp [h0, h])
          simp [h0]; omega
        · have h3 : z2 < 0 := by
            rcases Int.lt_or_le z2 0 with h | h
            · exact h
            · exact absurd (by rw [e1, e2]; simp [h0, show ¬ z2 < 0 by omega]) hb
          simp [h0]; omega
      have HS1 := Lib.hid (subSn (h1.ns.ext hE) (h2.ns.ext hE) (by omega) (by omega) (Nat.le_of_not_lt hlt))
      have HNEW := Lib.hid (fun W v (he : NV W v (z1.natAbs - z2.natAbs)) => newV (b := b1) he (by omega))
      rw [hz] at HNEW
      have hb2 : (b1 == b2) = false := by cases b1 <;> cases b2 <;> first | rfl | exact absurd rfl hb
      clear h1 h2 l1 l2 l3 l4 l5 e1 e2 hz hlt
      go_enter Tryz.func35, Tryz.ntmps35
      go_wp2_with fail
      refine HS1.out.mono ?_
      rintro e w1 ⟨v, rfl, hE1, g1⟩
      replace hE := hE.trans hE1
      replace x0 := x0.ext hE1
      replace x2 := x2.ext hE1
      have y0 := x0.cell
      clear hE1 x0 x1
      go_wp2_with fail
      refine (HNEW.out _ _ g1).mono ?_
      rintro e w3 ⟨v, rfl, hE3, g3⟩
      replace x2 := x2.ext hE3
      obtain ⟨b, A, n, c, rfl, hEf, gf⟩ := IV.put g3 x2 (by omega) (hE.trans hE3)
      have c4 := x2.cell
      have f4 := x2.frozen
      clear g1 g3 y0 HNEW HS1 x2 hE hE3
      go_wp2
      exact bodyPost_ret (v := .agg #[.bool b, .slice A n c]) (by simp [results, Tryz.results35, go_sem, c4, f4]) rfl ⟨_, rfl, hEf, gf⟩
theorem addV {u v : Value} {z1 z2 : Int} {w : World} (h1 : IV w u z1) (h2 : IV w v z2) (hn1 : L z1.natAbs ≤ 300000000) (hn2 : L z2.natAbs ≤ 300000000) :
    Calls Tryz.prog 35 #[u, v] w fun e w' => ∃ v, e = .returned v ∧ Ext w w' ∧ IV w' v (z1 + z2) := by
  obtain ⟨b, A, n, c, rfl, h1⟩ := h1
  obtain ⟨b', A', n', c', rfl, h2⟩ := h2
  exact addI h1 h2 (by rw [h1.ns.len]; exact hn1) (by rw [h2.ns.len]; exact hn2)
theorem negV {u : Value} {z1 : Int} {w : World} (h1 : IV w u z1) (hn1 : L z1.natAbs ≤ 400000000) :
    Calls Tryz.prog 80 #[u] w fun e w' => ∃ v, e = .returned v ∧ Ext w w' ∧ IV w' v (-z1) := by
  obtain ⟨b, A, n, c, rfl, h1⟩ := h1
  exact negI h1 (by rw [h1.ns.len]; exact hn1)
theorem signV {u : Value} {z1 : Int} {w : World} (h1 : IV w u z1) (hn1 : L z1.natAbs ≤ 400000000) :
    Calls Tryz.prog 56 #[u] w fun e w' => e = .returned (.int .i64 (signZ z1)) ∧ Ext w w' := by
  obtain ⟨b, A, n, c, rfl, h1⟩ := h1
  exact signI h1 (by rw [h1.ns.len]; exact hn1)
set_option maxHeartbeats 400000 in
theorem subI {b1 b2 : Bool} {A1 A2 : Option Addr} {n1 n2 c1 c2 : Nat} {z1 z2 : Int} {w : World} (h1 : IS w b1 A1 n1 c1 z1) (h2 : IS w b2 A2 n2 c2 z2) (hn1 : n1 ≤ 300000000) (hn2 : n2 ≤ 300000000) :
    Calls Tryz.prog 57 #[.agg #[.bool b1, .slice A1 n1 c1], .agg #[.bool b2, .slice A2 n2 c2]] w fun e w' => ∃ v, e = .returned v ∧ Ext w w' ∧ IV w' v (z1 - z2) := by
  have hE := ((Ext.alloc w (.cells #[.bool b1, .slice A1 n1 c1] 27)).trans (Ext.alloc _ (.cells #[.bool b2, .slice A2 n2 c2] 27))).trans (Ext.alloc _ (.cells #[.bool false, .slice none 0 0] 27))
  have x0 := ((Box.new w 27 #[.bool b1, .slice A1 n1 c1]).alloc (.cells #[.bool b2, .slice A2 n2 c2] 27)).alloc (.cells #[.bool false, .slice none 0 0] 27)
  have x1 := (Box.at1 (w := w) (o := .cells #[.bool b1, .slice A1 n1 c1] 27) (t := 27) (cs := #[.bool b2, .slice A2 n2 c2])).alloc (.cells #[.bool false, .slice none 0 0] 27)
  have x2 := Box.at2 (w := w) (o := .cells #[.bool b1, .slice A1 n1 c1] 27) (o' := .cells #[.bool b2, .slice A2 n2 c2] 27) (t := 27) (cs := #[.bool false, .slice none 0 0])
  have l1 := h1.ns.len
  have l2 := h2.ns.len
  have H1 := Lib.hid (fun W (he : Ext w W) => negV (⟨_, _, _, _, rfl, h2.ext he⟩ : IV W _ z2) (by omega))
  have H2 := Lib.hid (fun W v (hw : Ext w W) (he : IV W v (-z2)) => addV (⟨_, _, _, _, rfl, h1.ext hw⟩ : IV W _ z1) he (by omega) (by show L _ ≤ _; rw [Int.natAbs_neg]; omega))
  rw [← Int.sub_eq_add_neg] at H2
  clear h1 h2 l1 l2 hn1 hn2
  go_enter Tryz.func57, Tryz.ntmps57
  go_wp2_with fail
  apply wp_region_par' 4 (by kernel_rfl) (by kernel_rfl) rfl
  simp only [List.take_succ_cons, List.take_zero, List.drop_succ_cons, List.drop_zero]
  generalize hW : World.drew _ = W
  have hEW : Ext w W := by rw [← hW]; exact hE.trans (Ext.drew _)
  replace x0 : Box W w.heap.size 27 #[.bool b1, .slice A1 n1 c1] := by rw [← hW]; exact x0.drew
  replace x1 : Box W (w.heap.size + 1) 27 #[.bool b2, .slice A2 n2 c2] := by rw [← hW]; exact x1.drew
  replace x2 : Box W (w.heap.size + 1 + 1) 27 #[.bool false, .slice none 0 0] := by rw [← hW]; exact x2.drew
  clear hW
  have z0 := x0.lcell
  have z1' := x1.lcell
  iterate 2
    refine parW_step rfl (fun K hK => ?_)
    apply Exists.intro
    refine ⟨fun z => ?_, ?_⟩
    focus
      go_simp
      first
        | rfl
        | fail
    go_simp
    refine hK _ ?_
    clear hK K
  refine parW_rel rfl (IV.stable (-z2)) (fun x => ?_) ?_
  · have hc := H1.out x.val (hEW.later x)
    simp only [Giv]
    go_simp
    exact calls_rel hc
  refine parW_rel rfl (IV.stable (z1 - z2)) (fun x => ?_) ?_
  · intro v1 hv1
    have g1 := hv1 (show Nat.testBit _ _ = true from by kernel_rfl)
    have hc := H2.out x.val v1 (hEW.later x) g1
    simp only [Giv]
    go_simp
    exact calls_rel hc
  refine parW_fin (fun z => ?_)
  rintro v1 hv1 v2 hv2 hp
  simp only [Act.put, List.setIfInBounds_toArray, List.set_cons_succ, List.set_cons_zero]
  obtain ⟨b, A, n, c, rfl, hEf, gf⟩ := IV.put hv2 (x2.later z) (by omega) (hEW.later z)
  have c4 := (x2.later z).cell
  have f4 := (x2.later z).frozen
  clear hv1 hv2 hp z0 z1' H1 H2 x0 x1 x2
  generalize z.val = Z at *
  go_wp2
  exact bodyPost_ret (v := .agg #[.bool b, .slice A n c]) (by simp [results, Tryz.results57, go_sem, c4, f4]) rfl ⟨_, rfl, hEf, gf⟩
set_option maxHeartbeats 400000 in
theorem mulI {b1 b2 : Bool} {A1 A2 : Option Addr} {n1 n2 c1 c2 : Nat} {z1 z2 : Int} {w : World} (h1 : IS w b1 A1 n1 c1 z1) (h2 : IS w b2 A2 n2 c2 z2) (hn1 : n1 ≤ 200000000) (hn2 : n2 ≤ 200000000) :
    Calls Tryz.prog 55 #[.agg #[.bool b1, .slice A1 n1 c1], .agg #[.bool b2, .slice A2 n2 c2]] w fun e w' => ∃ v, e = .returned v ∧ Ext w w' ∧ IV w' v (z1 * z2) := by
  have hE := ((Ext.alloc w (.cells #[.bool b1, .slice A1 n1 c1] 27)).trans (Ext.alloc _ (.cells #[.bool b2, .slice A2 n2 c2] 27))).trans (Ext.alloc _ (.cells #[.bool false, .slice none 0 0] 27))
  have x0 := ((Box.new w 27 #[.bool b1, .slice A1 n1 c1]).alloc (.cells #[.bool b2, .slice A2 n2 c2] 27)).alloc (.cells #[.bool false, .slice none 0 0] 27)
  have x1 := (Box.at1 (w := w) (o := .cells #[.bool b1, .slice A1 n1 c1] 27) (t := 27) (cs := #[.bool b2, .slice A2 n2 c2])).alloc (.cells #[.bool false, .slice none 0 0] 27)
  have x2 := Box.at2 (w := w) (o := .cells #[.bool b1, .slice A1 n1 c1] 27) (o' := .cells #[.bool b2, .slice A2 n2 c2] 27) (t := 27) (cs := #[.bool false, .slice none 0 0])
  have l1 := h1.ns.len
  have l2 := h2.ns.len
  have l3 := L_mul z1.natAbs z2.natAbs
  have e1 := h1.neg
  have e2 := h2.neg
  have hz : mkI (b1 != b2) (z1.natAbs * z2.natAbs) = z1 * z2 := by
    rw [e1, e2, ← Int.natAbs_mul]
    unfold mkI
    by_cases h0 : z1 < 0 <;> by_cases h3 : z2 < 0
    · have := Int.mul_pos_of_neg_of_neg h0 h3
      simp [h0, h3]; omega
    · have : z1 * z2 ≤ 0 := Int.mul_nonpos_of_nonpos_of_nonneg (by omega) (by omega)
      simp [h0, h3]; omega
    · have : z1 * z2 ≤ 0 := Int.mul_nonpos_of_nonneg_of_nonpos (by omega) (by omega)
      simp [h0, h3]; omega
    · have := Int.mul_nonneg (show 0 ≤ z1 by omega) (show 0 ≤ z2 by omega)
      simp [h0, h3]; omega
  have H1 := Lib.hid (fun W (he : Ext w W) => mulSn (h1.ns.ext he) (h2.ns.ext he) (by omega) (by omega))
  have H2 := Lib.hid (fun W v (hw : Ext w W) (he : NV W v (z1.natAbs * z2.natAbs)) => newV (b := b1 != b2) he (by omega))
  rw [hz] at H2
  clear h1 h2 l1 l2 hn1 hn2 l3 e1 e2 hz
  go_enter Tryz.func55, Tryz.ntmps55
  go_wp2_with fail
  apply wp_region_par' 11 (by kernel_rfl) (by kernel_rfl) rfl
  simp only [List.take_succ_cons, List.take_zero, List.drop_succ_cons, List.drop_zero]
  generalize hW : World.drew _ = W
  have hEW : Ext w W := by rw [← hW]; exact hE.trans (Ext.drew _)
  replace x0 : Box W w.heap.size 27 #[.bool b1, .slice A1 n1 c1] := by rw [← hW]; exact x0.drew
  replace x1 : Box W (w.heap.size + 1) 27 #[.bool b2, .slice A2 n2 c2] := by rw [← hW]; exact x1.drew
  replace x2 : Box W (w.heap.size + 1 + 1) 27 #[.bool false, .slice none 0 0] := by rw [← hW]; exact x2.drew
  clear hW
  have z0 := x0.lcell
  have z1' := x1.lcell
  iterate 9
    refine parW_step rfl (fun K hK => ?_)
    apply Exists.intro
    refine ⟨fun z => ?_, ?_⟩
    focus
      go_simp
      first
        | rfl
        | fail
    go_simp
    refine hK _ ?_
    clear hK K
  refine parW_rel rfl (NV.stable (z1.natAbs * z2.natAbs)) (fun x => ?_) ?_
  · have hc := H1.out x.val (hEW.later x)
    simp only [Giv]
    go_simp
    exact calls_rel hc
  refine parW_rel rfl (IV.stable (z1 * z2)) (fun x => ?_) ?_
  · intro v1 hv1
    have g1 := hv1 (show Nat.testBit _ _ = true from by kernel_rfl)
    have hc := H2.out x.val v1 (hEW.later x) g1
    simp only [Giv]
    go_simp
    exact calls_rel hc
  refine parW_fin (fun z => ?_)
  rintro v1 hv1 v2 hv2 hp
  simp only [Act.put, List.setIfInBounds_toArray, List.set_cons_succ, List.set_cons_zero]
  obtain ⟨b, A, n, c, rfl, hEf, gf⟩ := IV.put hv2 (x2.later z) (by omega) (hEW.later z)
  have c4 := (x2.later z).cell
  have f4 := (x2.later z).frozen
  clear hv1 hv2 hp z0 z1' H1 H2 x0 x1 x2
  generalize z.val = Z at *
  go_wp2
  exact bodyPost_ret (v := .agg #[.bool b, .slice A n c]) (by simp [results, Tryz.results55, go_sem, c4, f4]) rfl ⟨_, rfl, hEf, gf⟩
theorem subV {u v : Value} {z1 z2 : Int} {w : World} (h1 : IV w u z1) (h2 : IV w v z2) (hn1 : L z1.natAbs ≤ 300000000) (hn2 : L z2.natAbs ≤ 300000000) :
    Calls Tryz.prog 57 #[u, v] w fun e w' => ∃ v, e = .returned v ∧ Ext w w' ∧ IV w' v (z1 - z2) := by
  obtain ⟨b, A, n, c, rfl, h1⟩ := h1
  obtain ⟨b', A', n', c', rfl, h2⟩ := h2
  exact subI h1 h2 (by rw [h1.ns.len]; exact hn1) (by rw [h2.ns.len]; exact hn2)
theorem mulV {u v : Value} {z1 z2 : Int} {w : World} (h1 : IV w u z1) (h2 : IV w v z2) (hn1 : L z1.natAbs ≤ 200000000) (hn2 : L z2.natAbs ≤ 200000000) :
    Calls Tryz.prog 55 #[u, v] w fun e w' => ∃ v, e = .returned v ∧ Ext w w' ∧ IV w' v (z1 * z2) := by
  obtain ⟨b, A, n, c, rfl, h1⟩ := h1
  obtain ⟨b', A', n', c', rfl, h2⟩ := h2
  exact mulI h1 h2 (by rw [h1.ns.len]; exact hn1) (by rw [h2.ns.len]; exact hn2)
theorem LZ_sub (a b : Int) : L (a - b).natAbs ≤ max (L a.natAbs) (L b.natAbs) + 1 := by
  have h1 := L_add a.natAbs b.natAbs
  have h2 := L_le (show (a - b).natAbs ≤ a.natAbs + b.natAbs by omega)
  show L _ ≤ max (L _) (L _) + 1
  omega
theorem LZ_add (a b : Int) : L (a + b).natAbs ≤ max (L a.natAbs) (L b.natAbs) + 1 := by
  have h1 := L_add a.natAbs b.natAbs
  have h2 := L_le (show (a + b).natAbs ≤ a.natAbs + b.natAbs by omega)
  show L _ ≤ max (L _) (L _) + 1
  omega
theorem LZ_mul (a b : Int) : L (a * b).natAbs ≤ L a.natAbs + L b.natAbs := by
  show L _ ≤ L _ + L _
  rw [Int.natAbs_mul]
  exact L_mul _ _
set_option maxHeartbeats 400000 in
theorem cmpI {b1 b2 : Bool} {A1 A2 : Option Addr} {n1 n2 c1 c2 : Nat} {z1 z2 : Int} {w : World} (h1 : IS w b1 A1 n1 c1 z1) (h2 : IS w b2 A2 n2 c2 z2) (hn1 : n1 ≤ 300000000) (hn2 : n2 ≤ 300000000) :
    Calls Tryz.prog 30 #[.agg #[.bool b1, .slice A1 n1 c1], .agg #[.bool b2, .slice A2 n2 c2]] w fun e w' => e = .returned (.int .i64 (signZ (z1 - z2))) ∧ Ext w w' := by
  have hE := (Ext.alloc w (.cells #[.bool b1, .slice A1 n1 c1] 27)).trans (Ext.alloc _ (.cells #[.bool b2, .slice A2 n2 c2] 27))
  have l1 := h1.ns.len
  have l2 := h2.ns.len
  have l3 := LZ_sub z1 z2
  have H1 := Lib.hid (subI (h1.ext hE) (h2.ext hE) hn1 hn2)
  have H2 := Lib.hid (fun W v (he : IV W v (z1 - z2)) => signV he (by omega))
  clear h1 h2 l1 l2 l3
  go_enter Tryz.func30, Tryz.ntmps30
  go_wp2_with fail
  refine H1.out.mono ?_
  rintro e w1 ⟨v, rfl, hE1, g1⟩
  go_wp2_with fail
  refine (H2.out _ _ g1).mono ?_
  rintro e w2 ⟨rfl, hE2⟩
  go_wp2
  go_ret
  exact ⟨ret_eq rfl, (hE.trans hE1).trans hE2⟩
theorem cmpV {u v : Value} {z1 z2 : Int} {w : World} (h1 : IV w u z1) (h2 : IV w v z2) (hn1 : L z1.natAbs ≤ 300000000) (hn2 : L z2.natAbs ≤ 300000000) :
    Calls Tryz.prog 30 #[u, v] w fun e w' => e = .returned (.int .i64 (signZ (z1 - z2))) ∧ Ext w w' := by
  obtain ⟨b, A, n, c, rfl, h1⟩ := h1
  obtain ⟨b', A', n', c', rfl, h2⟩ := h2
  exact cmpI h1 h2 (by rw [h1.ns.len]; exact hn1) (by rw [h2.ns.len]; exact hn2)
end Go.Proofs.YtodefmfgoehkhaaGreat
