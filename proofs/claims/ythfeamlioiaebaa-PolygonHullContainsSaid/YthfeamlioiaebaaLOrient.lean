/- PolygonOrient: for every slice of points and every point the function returns true, and all that was there is as it was. -/
import Derived.Test.YthfeamlioiaebaaLOrientation
set_option linter.unusedVariables false
set_option linter.unusedSimpArgs false
namespace Go.Proofs.Ythfeamlioiaebaa
open Go.ChangeShapes Go.WideShapes Go.ChangeAt Go.RowKit Go.Par Go.Deep Go.Joins

theorem revS_cons (x : P2) (t : List P2) : revS (x :: t) = x :: t.reverse := by simp [revS]
theorem cyc_revS (f : P2 → P2 → Int) (l : List P2) : cycS f (revS l) = cycS f l.reverse := by
  cases l with
  | nil => rfl
  | cons x t => rw [revS_cons, List.reverse_cons, cyc_one]
theorem valid_revS (l : List P2) : validL [revS l] = validL [l] := by
  rw [← valid_reverse l]
  cases l with
  | nil => rfl
  | cons x t =>
    rw [revS_cons, List.reverse_cons, validL_one, validL_one, List.length_append, List.all_append]
    simp [Bool.and_comm, Nat.add_comm]
theorem windL_revS (l : List P2) (p : P2) : windL [revS l] p = - windL [l] p := by
  rw [← windL_reverse, windL_one, windL_one, valid_revS, valid_reverse, windR_cyc, windR_cyc, cyc_revS]
theorem areaS_revS (l : List P2) : areaS (revS l) = - areaS l := by
  rw [← areaS_reverse]
  unfold areaS
  rw [valid_revS, valid_reverse, area_cyc, area_cyc, cyc_revS]
theorem revS_head (l : List P2) : (revS l)[0]? = l[0]? := by
  cases l with
  | nil => rfl
  | cons x t => rw [revS_cons]; rfl
/-- what Orient does to a ring with an area -/
theorem orient_facts (l : List P2) (p : P2) (h : areaS l ≠ 0) : (orientL l).length = l.length ∧ (orientL l)[0]? = l[0]? ∧ orientL (orientL l) = orientL l ∧
    (0 < areaS l → areaS (orientL l) = areaS l ∧ windL [orientL l] p = windL [l] p) ∧ (areaS l < 0 → areaS (orientL l) = - areaS l ∧ windL [orientL l] p = - windL [l] p) := by
  by_cases hn : areaS l < 0
  · have e : orientL l = revS l := by unfold orientL; rw [if_neg h, if_pos hn]
    have e2 : orientL (revS l) = revS l := by unfold orientL; rw [areaS_revS, if_neg (by omega), if_neg (by omega)]
    rw [e]
    exact ⟨revS_length l, revS_head l, e2, fun h' => by omega, fun _ => ⟨areaS_revS l, windL_revS l p⟩⟩
  · have e : orientL l = l := by unfold orientL; rw [if_neg h, if_neg hn]
    rw [e, e]
    exact ⟨rfl, rfl, rfl, fun _ => ⟨rfl, rfl⟩, fun h' => absurd h' hn⟩
set_option maxRecDepth 100000 in
set_option maxHeartbeats 800000 in
theorem polygonOrient_any (one : List P2) (A1 : Option Addr) (c1 : Nat) (px py : Int) (w : World) (hc1 : one.length ≤ c1) (hb1 : one.length ≤ 17592186044416) (hP : PtsAt w A1 one) :
    Calls Try.prog 8 #[.slice A1 one.length c1, .agg #[.int .i64 px, .int .i64 py]] w fun e w' => e = .returned (.bool true) ∧ Ext w w' := by
  obtain ⟨n, hn⟩ : ∃ n, n = one.length := ⟨_, rfl⟩
  rw [← hn] at hc1 hb1 ⊢
  have HN := Lib.hid hn
  clear hn
  have HA := Lib.hid (fun W (h : Ext w W) => DoubleArea_any one A1 c1 n W HN.out hc1 hb1 (hP.ext h))
  have HO := Lib.hid (fun (hs : n ≤ 1000000) W (h : Ext w W) => Orient_poly one A1 c1 n W HN.out hc1 hs (hP.ext h))
  have hfacts := orient_facts one (px, py)
  have har := areaS_bd one
  have hnb := windL_bd [one] (px, py)
  have hne : areaS one ≠ 0 → 0 < n := fun h => by
    rw [HN.out]
    cases one with
    | nil => exact absurd rfl h
    | cons p t => simp
  have HZ := Lib.hid (show areaS one = 0 → orientL one = [] from fun h => by unfold orientL; rw [if_pos h])
  have HWO := Lib.hid (fun W (h : PtsAt W A1 one) b (hB : Box W b 38 #[.slice A1 n c1]) => Winding_any [one] (some ⟨b, 0, none⟩) 1 px py W (by simp) (RingsAt.one (by rw [← HN.out]; exact hB) (by rw [← HN.out]; exact hc1) (by rw [← HN.out]; exact hb1) h))
  obtain ⟨up, hup⟩ : ∃ up, up = orientL one := ⟨_, rfl⟩
  rw [← hup] at hfacts HO HZ
  obtain ⟨a, ha'⟩ : ∃ a, a = areaS one := ⟨_, rfl⟩
  obtain ⟨nn, hnn⟩ : ∃ nn, nn = windL [one] (px, py) := ⟨_, rfl⟩
  rw [← hnn] at hfacts hnb HWO
  rw [← ha'] at hfacts har HA HZ hne
  have HNE := Lib.hid hne
  have HFACT := Lib.hid hfacts
  clear hfacts hup ha' hnn hne
  by_cases hn1 : n ≤ 100
  · have HO' := Lib.hid (HO.out (by omega))
    clear HO
    go_enter Try.func8, Try.ntmps8
    go_wp2_with fail
    refine (HA.out _ (Ext.alloc _ _)).mono ?_
    rintro e w1 ⟨rfl, hE1⟩
    have B := (Box.new w 24 #[.int .i64 px, .int .i64 py]).ext hE1
    have hE := (Ext.alloc w _).trans hE1
    clear hE1
    go_wp2_with fail
    refine (HO'.out _ hE).mono ?_
    rintro e w2 ⟨v, rfl, hE2, hown⟩
    have hE' := hE.trans hE2
    have B2 := B.ext hE2
    clear hE hE2 B
    by_cases ha : a = 0
    · have hu := HZ.out ha
      rw [hu] at hown
      obtain ⟨A2, c2, rfl, _, _⟩ := hown.at rfl (by decide)
      subst ha
      clear hown hu
      go_wp2_with fail
      refine (example_any _).mono ?_
      rintro e w3 ⟨rfl, hE3⟩
      go_wp2
      go_ret
      exact ⟨rfl, hE'.trans hE3⟩
    · obtain ⟨f1, f2, f3, f4, f5⟩ := HFACT.out ha
      have HUL := Lib.hid (show n = up.length from by rw [f1]; exact HN.out)
      obtain ⟨A2, c2, rfl, hc2, hP2⟩ := hown.at (n := n) HUL.out.symm hb1
      have hn0 := HNE.out ha
      obtain ⟨⟨x0, y0⟩, hl0⟩ : ∃ q, one[0]? = some q := ⟨_, List.getElem?_eq_getElem (by rw [← HN.out]; exact hn0)⟩
      rw [hl0] at f2
      have HWU := Lib.hid (fun W (h : PtsAt W A2 up) b (hB : Box W b 38 #[.slice A2 n c2]) => Winding_any [up] (some ⟨b, 0, none⟩) 1 px py W (by simp) (RingsAt.one (by rw [← HUL.out]; exact hB) (by rw [← HUL.out]; exact hc2) (by rw [← HUL.out]; exact hb1) h))
      have HAU := Lib.hid (fun W (h : PtsAt W A2 up) => DoubleArea_any up A2 c2 n W HUL.out hc2 hb1 h)
      have HOU := Lib.hid (fun W (h : PtsAt W A2 up) => Orient_poly up A2 c2 n W HUL.out hc2 (by omega) h)
      have HRG := Lib.hid (fun W (h : PtsAt W A2 up) B d (hB : PtsAt W B up) => Ring_any up up B A2 d c2 n n W HUL.out HUL.out (by omega) (by omega) hB h)
      rw [eqS_self] at HRG
      rw [f3] at HOU
      obtain ⟨au, hau⟩ : ∃ au, au = areaS up := ⟨_, rfl⟩
      obtain ⟨mm, hmm⟩ : ∃ mm, mm = windL [up] (px, py) := ⟨_, rfl⟩
      rw [← hau] at f4 f5 HAU
      rw [← hmm] at f4 f5 HWU
      obtain ⟨bo, oo, rfl, hco⟩ := hP (fun e => by rw [e] at hl0; simp at hl0)
      obtain ⟨bu, ou, rfl, hcu⟩ := hP2 (fun e => by rw [e] at f2; simp at f2)
      have co0 := hE'.cell (hco 0 _ hl0).1
      have co1 := hE'.cell (hco 0 _ hl0).2
      have cu0 := (hcu 0 _ f2).1
      have cu1 := (hcu 0 _ f2).2
      rw [Nat.zero_mul, Nat.add_zero] at co0 co1 cu0 cu1
      have hPo := hP.ext hE'
      have d0 : (a == 0) = false := by rw [beq_eq_false_iff_ne]; exact ha
      have hcase : (0 < a ∧ max a (-a) = au ∧ au = a ∧ mm = nn) ∨ ((a < 0 ∧ (0 < a) = False) ∧ max a (-a) = au ∧ au = -a ∧ mm = -nn) := by
        rcases Int.lt_or_gt_of_ne ha with h | h
        · exact .inr ⟨⟨h, eq_false (by omega)⟩, by rw [(f5 h).1]; omega, (f5 h).1, (f5 h).2⟩
        · exact .inl ⟨h, by rw [(f4 h).1]; omega, (f4 h).1, (f4 h).2⟩
      clear f1 f2 f3 f4 f5 hau hmm hl0 hco hcu hP hown HFACT HZ HA HO' HN HNE
      have w1' : IntKind.i64.wrap (-a) = -a := IntWalk.i64_in _ (by omega)
      have w2' : IntKind.i64.wrap (-nn) = -nn := IntWalk.i64_in _ (by omega)
      clear har hnb
      go_wp2_with fail
      apply wp_region_par' 8 (by kernel_rfl) (by kernel_rfl) rfl
      simp only [List.take_succ_cons, List.take_zero, List.drop_succ_cons, List.drop_zero]
      generalize hW : World.drew _ = W
      have hEW : Ext w2 W := by rw [← hW]; exact Ext.drew _
      clear hW
      have BW := B2.ext hEW
      have kW := BW.lcell
      iterate 1
        refine parW_step rfl (fun K hK => ?_)
        apply Exists.intro
        refine ⟨fun z => ?_, ?_⟩
        focus
          go_simp
          first
            | rfl
            | rfl
        go_simp
        refine hK _ ?_
        clear hK K
      refine parW_newRow (t := 38) (n := 1) (cs := #[.slice (some ⟨bo, oo, none⟩) n c1]) rfl rfl rfl (by simp) (fun w1 => by kernel_rfl) ?_
      iterate 1
        refine parW_step rfl (fun K hK => ?_)
        apply Exists.intro
        refine ⟨fun z => ?_, ?_⟩
        focus
          go_simp
          first
            | rfl
            | rfl
        go_simp
        refine hK _ ?_
        clear hK K
      refine parW_giv (c := .int .i64 nn) (fun x => ?_) ?_
      · intro v hv
        obtain ⟨b0, rfl, hb0, hbx⟩ := hv (show Nat.testBit _ _ = true from by kernel_rfl)
        have hc := HWO.out x.val (hPo.ext (hEW.later x)) b0 hbx
        simp only [Giv]
        go_simp
        exact calls_val hc
      iterate 1
        refine parW_step rfl (fun K hK => ?_)
        apply Exists.intro
        refine ⟨fun z => ?_, ?_⟩
        focus
          go_simp
          first
            | rfl
            | rfl
        go_simp
        refine hK _ ?_
        clear hK K
      refine parW_newRow (t := 38) (n := 1) (cs := #[.slice (some ⟨bu, ou, none⟩) n c2]) rfl rfl rfl (by simp) (fun w1 => by kernel_rfl) ?_
      iterate 1
        refine parW_step rfl (fun K hK => ?_)
        apply Exists.intro
        refine ⟨fun z => ?_, ?_⟩
        focus
          go_simp
          first
            | rfl
            | rfl
        go_simp
        refine hK _ ?_
        clear hK K
      refine parW_giv (c := .int .i64 mm) (fun x => ?_) ?_
      · intro v1 hv1 v hv
        obtain ⟨b0, rfl, hb0, hbx⟩ := hv (show Nat.testBit _ _ = true from by kernel_rfl)
        have hc := HWU.out x.val (hP2.ext (hEW.later x)) b0 hbx
        simp only [Giv]
        go_simp
        exact calls_val hc
      refine parW_fin (fun z => ?_)
      rintro v1 ⟨b5, rfl, _, _⟩ v2 ⟨b6, rfl, _, _⟩ hp
      clear hp
      have hz := hEW.later z
      have hE := hE'.trans hz
      have BZ := BW.later z
      have eo := hPo.ext hz
      have eu := hP2.ext hz
      have go0 := hz.cell co0; have go1 := hz.cell co1; have gu0 := hz.cell cu0; have gu1 := hz.cell cu1
      clear kW BW hPo hP2 co0 co1 cu0 cu1 hE' hz B2 HWO HWU
      generalize z.val = Z at *
      clear z hEW
      simp only [Act.put, List.setIfInBounds_toArray, List.set_cons_succ, List.set_cons_zero]
      rcases hcase with ⟨k1, k2, rfl, rfl⟩ | ⟨⟨k1, k3⟩, k2, rfl, rfl⟩
      all_goals
        go_wp2_with fail
        apply wp_region_par' 51 (by kernel_rfl) (by kernel_rfl) rfl
        simp only [List.take_succ_cons, List.take_zero, List.drop_succ_cons, List.drop_zero]
        generalize hW : World.drew _ = W2
        have hEW : Ext Z W2 := by rw [← hW]; exact Ext.drew _
        clear hW
        have t0 := fun z : Later W2 => z.cell (hEW.cell go0)
        have t1 := fun z : Later W2 => z.cell (hEW.cell go1)
        have t2 := fun z : Later W2 => z.cell (hEW.cell gu0)
        have t3 := fun z : Later W2 => z.cell (hEW.cell gu1)
        clear go0 go1 gu0 gu1
        iterate 44
          refine parW_step rfl (fun K hK => ?_)
          apply Exists.intro
          refine ⟨fun z => ?_, ?_⟩
          focus
            go_simp
            first
              | rfl
              | with_reducible exact calls_val (HAU.out _ (eu.ext (hEW.later z)))
          go_simp
          refine hK _ ?_
          clear hK K
        refine parW_rel rfl (R := fun v w => ∃ B, Own w B v up) (fun v w w' ⟨B, h⟩ he => ⟨B, h.ext he⟩) (fun x => ?_) ?_
        · have hc := (HOU.out x.val (eu.ext (hEW.later x))).mono (R' := fun e w' => ∃ v, e = .returned v ∧ Ext x.val w' ∧ ∃ B, Own w' B v up) fun e w' ⟨v, h1, h2, h3⟩ => ⟨v, h1, h2, _, h3⟩
          simp only [Giv]
          go_simp
          exact calls_rel hc
        iterate 1
          refine parW_step rfl (fun K hK => ?_)
          apply Exists.intro
          refine ⟨fun z => ?_, ?_⟩
          focus
            go_simp
            first
              | rfl
              | rfl
          go_simp
          refine hK _ ?_
          clear hK K
        refine parW_giv (c := .bool true) (fun x => ?_) ?_
        · intro v hv
          obtain ⟨B, hown⟩ := hv (show Nat.testBit _ _ = true from by kernel_rfl)
          obtain ⟨A3, c3, rfl, _, hP3⟩ := hown.at HUL.out.symm hb1
          have hc := HRG.out x.val (eu.ext (hEW.later x)) A3 c3 hP3
          simp only [Giv]
          go_simp
          exact calls_val hc
        iterate 4
          refine parW_step rfl (fun K hK => ?_)
          apply Exists.intro
          refine ⟨fun z => ?_, ?_⟩
          focus
            go_simp
            first
              | rfl
              | with_reducible exact calls_val (example_any _)
          go_simp
          refine hK _ ?_
          clear hK K
        refine parW_fin (fun z => ?_)
        rintro v1 ⟨B, hown⟩ hp
        simp only [Act.put, List.setIfInBounds_toArray, List.set_cons_succ, List.set_cons_zero]
        go_wp2
        go_ret
        exact ⟨rfl, (hE.trans hEW).trans z.prop⟩
  · clear HO
    go_enter Try.func8, Try.ntmps8
    go_wp2_with fail
    refine (example_any _).mono ?_
    rintro e w2 ⟨rfl, hE2⟩
    go_wp2
    go_ret
    exact ⟨rfl, (Ext.alloc _ _).trans hE2⟩
end Go.Proofs.Ythfeamlioiaebaa
