/- PolygonSimplifyKeeps: for every slice of points and every point the function returns true, and all that was there is as it was. -/
import Derived.Test.YthfeamlioiaebaaSimpl
import Derived.Test.YthfeamlioiaebaaOrient2
import Derived.Test.YthfeamlioiaebaaExample2
import Derived.Test.YthfeamlioiaebaaOpen
set_option linter.unusedVariables false
set_option linter.unusedSimpArgs false
namespace Go.Proofs.Ythfeamlioiaebaa
open Go.ChangeShapes Go.WideShapes Go.ChangeAt Go.RowKit Go.Par Go.Deep Go.Joins

set_option maxRecDepth 100000 in
set_option maxHeartbeats 800000 in
theorem polygonSimplifyKeeps_any (one : List P2) (A1 : Option Addr) (c1 : Nat) (px py : Int) (w : World) (hc1 : one.length ≤ c1) (hb1 : one.length ≤ 17592186044416) (hP : PtsAt w A1 one) :
    Calls Try.prog 10 #[.slice A1 one.length c1, .agg #[.int .i64 px, .int .i64 py]] w fun e w' => e = .returned (.bool true) ∧ Ext w w' := by
  obtain ⟨n, hn⟩ : ∃ n, n = one.length := ⟨_, rfl⟩
  rw [← hn] at hc1 hb1 ⊢
  have HN := Lib.hid hn
  clear hn
  have HA := Lib.hid (fun W (h : Ext w W) => DoubleArea_any one A1 c1 n W HN.out hc1 hb1 (hP.ext h))
  have HO := Lib.hid (fun (hs : n ≤ 1000000) W (h : Ext w W) => Simplify_any one A1 c1 n W HN.out hc1 hs (hP.ext h))
  have HWO := Lib.hid (fun W (h : PtsAt W A1 one) b (hB : Box W b 38 #[.slice A1 n c1]) => Winding_any [one] (some ⟨b, 0, none⟩) 1 px py W (by simp) (RingsAt.one (by rw [← HN.out]; exact hB) (by rw [← HN.out]; exact hc1) (by rw [← HN.out]; exact hb1) h))
  obtain ⟨l1, l2, l3, l4, l5⟩ := simpS_laws one
  replace l2 := l2 (px, py)
  obtain ⟨l6, l7⟩ := simpS_len one
  have l8 := simpS_again one
  have l9 := fun i (hi : i < (simpS one).length) => simpS_turns one hi
  obtain ⟨s, hs⟩ : ∃ s, s = simpS one := ⟨_, rfl⟩
  rw [← hs] at l1 l2 l5 l6 l7 l8 l9 HO
  obtain ⟨m, hm⟩ : ∃ m, m = s.length := ⟨_, rfl⟩
  rw [← hm] at l5 l6 l7 l9
  rw [← HN.out] at l5
  rw [← l1] at HA
  rw [← l2] at HWO
  have HM := Lib.hid hm
  have H8 := Lib.hid l8
  have H9 := Lib.hid l9
  have d1 : ((m : Int) == 1) = false := by rw [beq_eq_false_iff_ne]; omega
  have d2 : ((m : Int) == 2) = false := by rw [beq_eq_false_iff_ne]; omega
  clear l1 l2 l3 l4 l6 l7 l8 l9 hs hm
  obtain ⟨a, ha⟩ : ∃ a, a = areaS s := ⟨_, rfl⟩
  have HAE := Lib.hid ha
  obtain ⟨nn, hnn⟩ : ∃ nn, nn = windL [s] (px, py) := ⟨_, rfl⟩
  have HNE := Lib.hid hnn
  rw [← ha] at HA
  rw [← hnn] at HWO
  clear ha hnn
  by_cases hn1 : n ≤ 100
  · have HO' := Lib.hid (HO.out (by omega))
    clear HO
    go_enter Try.func10, Try.ntmps10
    go_wp2_with fail
    refine (HO'.out _ (Ext.alloc _ _)).mono ?_
    rintro e w1 ⟨v, rfl, hE1, hown⟩
    have B := (Box.new w 24 #[.int .i64 px, .int .i64 py]).ext hE1
    have hE := (Ext.alloc w _).trans hE1
    clear hE1 HO'
    obtain ⟨A2, c2, rfl, hc2, hP2⟩ := hown.at HM.out.symm (by omega)
    have HWU := Lib.hid (fun W (h : PtsAt W A2 s) b (hB : Box W b 38 #[.slice A2 m c2]) => Winding_any [s] (some ⟨b, 0, none⟩) 1 px py W (by simp) (RingsAt.one (by rw [← HM.out]; exact hB) (by rw [← HM.out]; exact hc2) (by rw [← HM.out]; omega) h))
    have HAU := Lib.hid (fun W (h : PtsAt W A2 s) => DoubleArea_any s A2 c2 m W HM.out hc2 (by omega) h)
    have HOU := Lib.hid (fun W (h : PtsAt W A2 s) => Simplify_any s A2 c2 m W HM.out hc2 (by omega) h)
    have HRG := Lib.hid (fun W (h : PtsAt W A2 s) B d (hB : PtsAt W B s) => Ring_any s s B A2 d c2 m m W HM.out HM.out (by omega) (by omega) hB h)
    rw [eqS_self] at HRG
    rw [H8.out] at HOU
    rw [← HAE.out] at HAU
    rw [← HNE.out] at HWU
    clear hown HAE HNE H8
    go_wp2_with fail
    apply wp_region_par' 31 (by kernel_rfl) (by kernel_rfl) rfl
    simp only [List.take_succ_cons, List.take_zero, List.drop_succ_cons, List.drop_zero]
    generalize hW : World.drew _ = W
    have hEW : Ext w1 W := by rw [← hW]; exact Ext.drew _
    clear hW
    have BW := B.ext hEW
    have kW := BW.lcell
    have hPo := hP.ext (hE.trans hEW)
    have hPu := hP2.ext hEW
    iterate 7
      refine parW_step rfl (fun K hK => ?_)
      apply Exists.intro
      refine ⟨fun z => ?_, ?_⟩
      focus
        go_simp
        first
          | rfl
          | with_reducible exact calls_val (HAU.out _ (hPu.ext z.prop))
          | with_reducible exact calls_val (HA.out _ ((hE.trans hEW).trans z.prop))
      go_simp
      refine hK _ ?_
      clear hK K
    refine parW_newRow (t := 38) (n := 1) (cs := #[.slice A2 m c2]) rfl rfl rfl (by simp) (fun w1 => by kernel_rfl) ?_
    iterate 1
      refine parW_step rfl (fun K hK => ?_)
      apply Exists.intro
      refine ⟨fun z => ?_, ?_⟩
      focus
        go_simp
        first
          | rfl
          | rfl
      go_simp
      refine hK _ ?_
      clear hK K
    refine parW_giv (c := .int .i64 nn) (fun x => ?_) ?_
    · intro v hv
      obtain ⟨b0, rfl, hb0, hbx⟩ := hv (show Nat.testBit _ _ = true from by kernel_rfl)
      have hc := HWU.out x.val (hPu.ext x.prop) b0 hbx
      simp only [Giv]
      go_simp
      exact calls_val hc
    iterate 1
      refine parW_step rfl (fun K hK => ?_)
      apply Exists.intro
      refine ⟨fun z => ?_, ?_⟩
      focus
        go_simp
        first
          | rfl
          | rfl
      go_simp
      refine hK _ ?_
      clear hK K
    refine parW_newRow (t := 38) (n := 1) (cs := #[.slice A1 n c1]) rfl rfl rfl (by simp) (fun w1 => by kernel_rfl) ?_
    iterate 1
      refine parW_step rfl (fun K hK => ?_)
      apply Exists.intro
      refine ⟨fun z => ?_, ?_⟩
      focus
        go_simp
        first
          | rfl
          | rfl
      go_simp
      refine hK _ ?_
      clear hK K
    refine parW_giv (c := .int .i64 nn) (fun x => ?_) ?_
    · intro v1 hv1 v hv
      obtain ⟨b0, rfl, hb0, hbx⟩ := hv (show Nat.testBit _ _ = true from by kernel_rfl)
      have hc := HWO.out x.val (hPo.ext x.prop) b0 hbx
      simp only [Giv]
      go_simp
      exact calls_val hc
    iterate 4
      refine parW_step rfl (fun K hK => ?_)
      apply Exists.intro
      refine ⟨fun z => ?_, ?_⟩
      focus
        go_simp
        first
          | rfl
          | rfl
      go_simp
      refine hK _ ?_
      clear hK K
    refine parW_rel rfl (R := fun v w => ∃ B, Own w B v s) (fun v w w' ⟨B, h⟩ he => ⟨B, h.ext he⟩) (fun x => ?_) ?_
    · intro v1 hv1 v2 hv2
      have hc := (HOU.out x.val (hPu.ext x.prop)).mono (R' := fun e w' => ∃ v, e = .returned v ∧ Ext x.val w' ∧ ∃ B, Own w' B v s) fun e w' ⟨v, h1, h2, h3⟩ => ⟨v, h1, h2, _, h3⟩
      simp only [Giv]
      go_simp
      exact calls_rel hc
    iterate 1
      refine parW_step rfl (fun K hK => ?_)
      apply Exists.intro
      refine ⟨fun z => ?_, ?_⟩
      focus
        go_simp
        first
          | rfl
          | rfl
      go_simp
      refine hK _ ?_
      clear hK K
    refine parW_giv (c := .bool true) (fun x => ?_) ?_
    · intro v1 hv1 v2 hv2 v hv
      obtain ⟨B, hown⟩ := hv (show Nat.testBit _ _ = true from by kernel_rfl)
      obtain ⟨A3, c3, rfl, _, hP3⟩ := hown.at HM.out.symm (by omega)
      have hc := HRG.out x.val (hPu.ext x.prop) A3 c3 hP3
      simp only [Giv]
      go_simp
      exact calls_val hc
    iterate 10
      refine parW_step rfl (fun K hK => ?_)
      apply Exists.intro
      refine ⟨fun z => ?_, ?_⟩
      focus
        go_simp
        first
          | rfl
          | rfl
      go_simp
      refine hK _ ?_
      clear hK K
    refine parW_fin (fun z => ?_)
    rintro v1 ⟨b5, rfl, _, _⟩ v2 ⟨b6, rfl, _, _⟩ v3 ⟨B3, hown3⟩ hp
    clear hp
    have hz := hEW.trans z.prop
    have hEz := hE.trans hz
    have eu := hP2.ext hz
    clear kW BW hPo hPu hE hz B HWO HWU hP2 hP HA HAU HOU HRG hown3
    generalize z.val = Z at *
    clear z hEW
    simp only [Act.put, List.setIfInBounds_toArray, List.set_cons_succ, List.set_cons_zero]
    go_wp2_with fail
    go_loopw [7] (fun i wr => ∃ k : Nat, k ≤ m ∧ i = .int .i64 k ∧ Ext w wr ∧ PtsAt wr A2 s) (fun i _ => m - (intOf i).toNat)
    case atStart => exact ⟨0, Nat.zero_le _, rfl, hEz, eu⟩
    case round =>
      obtain ⟨k, hk, rfl, hE, hP⟩ := hrel
      clear hEz eu
      by_cases hlt : k < m
      · obtain ⟨i, hi⟩ : ∃ i, i = (k + 1) % m := ⟨_, rfl⟩
        obtain ⟨j, hj⟩ : ∃ j, j = (k + 2) % m := ⟨_, rfl⟩
        have hin : i < m := by rw [hi]; exact Nat.mod_lt _ (by omega)
        have hjn : j < m := by rw [hj]; exact Nat.mod_lt _ (by omega)
        obtain ⟨⟨a1, a2⟩, hla⟩ : ∃ q, s[k]? = some q := ⟨_, List.getElem?_eq_getElem (by rw [← HM.out]; exact hlt)⟩
        obtain ⟨⟨b1, b2⟩, hlb⟩ : ∃ q, s[i]? = some q := ⟨_, List.getElem?_eq_getElem (by rw [← HM.out]; exact hin)⟩
        obtain ⟨⟨e1, e2⟩, hlc⟩ : ∃ q, s[j]? = some q := ⟨_, List.getElem?_eq_getElem (by rw [← HM.out]; exact hjn)⟩
        have ht := H9.out k hlt
        rw [← hi, ← hj, atS_at hla, atS_at hlb, atS_at hlc] at ht
        have dO : (orientS (a1, a2) (b1, b2) (e1, e2) == 0) = false := by rw [beq_eq_false_iff_ne]; exact ht
        have HP := Lib.hid hP
        obtain ⟨b, o, rfl, hcell⟩ := hP (fun e => by rw [e] at hla; simp at hla)
        have x0 := (hcell k _ hla).1
        have x1 := (hcell k _ hla).2
        have y0 := (hcell i _ hlb).1
        have y1 := (hcell i _ hlb).2
        have z0 := (hcell j _ hlc).1
        have z1 := (hcell j _ hlc).2
        have m1 := tmod_nat (a := k + 1) (n := m) (x := (k : Int) + 1) (by omega)
        have m2 := emod_nat (a := k + 1) (n := m) (x := (k : Int) + 1) (by omega)
        have m3 := tmod_nat (a := k + 2) (n := m) (x := (k : Int) + 2) (by omega)
        have m4 := emod_nat (a := k + 2) (n := m) (x := (k : Int) + 2) (by omega)
        rw [← hi] at m1 m2
        rw [← hj] at m3 m4
        have q3 : ¬ m = 0 := by omega
        have w1 : IntKind.i64.wrap ((k : Int) + 1) = (k : Int) + 1 := IntWalk.i64_in _ (by omega)
        have w2 : IntKind.i64.wrap ((k : Int) + 2) = (k : Int) + 2 := IntWalk.i64_in _ (by omega)
        clear hla hlb hlc hcell hi hj ht
        go_wp2_with fail
        apply wp_region_par' 20 (by kernel_rfl) (by kernel_rfl) rfl
        simp only [List.take_succ_cons, List.take_zero, List.drop_succ_cons, List.drop_zero]
        generalize hW : World.drew _ = W
        have hEW : Ext wr W := by rw [← hW]; exact Ext.drew _
        clear hW
        have e0 := fun z : Later W => z.cell (hEW.cell x0)
        have e1 := fun z : Later W => z.cell (hEW.cell x1)
        have e2 := fun z : Later W => z.cell (hEW.cell z0)
        have e3 := fun z : Later W => z.cell (hEW.cell z1)
        have e4 := fun z : Later W => z.cell (hEW.cell y0)
        have e5 := fun z : Later W => z.cell (hEW.cell y1)
        clear x0 x1 y0 y1 z0 z1
        iterate 20
          refine parW_step rfl (fun K hK => ?_)
          apply Exists.intro
          refine ⟨fun z => ?_, ?_⟩
          focus
            go_simp
            first
              | rfl
              | with_reducible exact calls_val (rOrient_any _ _ _ _ _ _ _)
          go_simp
          refine hK _ ?_
          clear hK K
        refine parW_end (fun z => ?_)
        have hE2 := hE.trans (hEW.later z)
        have hP2 := HP.out.ext (hEW.later z)
        clear e0 e1 e2 e3 e4 e5 m1 m2 m3 m4 w1 w2
        go_wp2
        go_roundw
        case rel => exact ⟨k + 1, by omega, by go_num, hE2, hP2⟩
        case measure => simp [intOf]; omega
      · go_wp2_with fail
        refine (example_any _).mono ?_
        rintro e w3 ⟨rfl, hE3⟩
        go_wp2
        go_ret
        exact ⟨rfl, hE.trans hE3⟩
  · clear HO
    go_enter Try.func10, Try.ntmps10
    go_wp2_with fail
    refine (example_any _).mono ?_
    rintro e w2 ⟨rfl, hE2⟩
    go_wp2
    go_ret
    exact ⟨rfl, (Ext.alloc _ _).trans hE2⟩
end Go.Proofs.Ythfeamlioiaebaa
