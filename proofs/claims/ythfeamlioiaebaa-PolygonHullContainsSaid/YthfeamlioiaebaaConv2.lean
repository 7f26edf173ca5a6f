/- IsConvex, in the program and in the reference. -/
import Derived.Test.YthfeamlioiaebaaConv
set_option linter.unusedVariables false
set_option linter.unusedSimpArgs false
namespace Go.Proofs.Ythfeamlioiaebaa
open Go.RowKit Go.Par

set_option maxRecDepth 100000 in
set_option maxHeartbeats 800000 in
theorem IsConvex_any (l : List P2) (A : Option Addr) (c n : Nat) (w : World) (hn : n = l.length) (hlc : n ≤ c) (hc : n ≤ 1000000) (hP : PtsAt w A l) :
    Calls Try.prog 45 #[.slice A n c] w fun e w' => e = .returned (.bool (convS l)) ∧ Ext w w' := by
  have HN := Lib.hid hn
  have hdef : convS l = (decide (3 ≤ n) && validL [l] && decide (orientS (atS l 0) (atS l 1) (atS l 2) ≠ 0) && (List.range l.length).all fun i => sidesS l i (orientS (atS l 0) (atS l 1) (atS l 2))) := by rw [hn]; rfl
  clear hn
  by_cases h3 : 3 ≤ n
  · obtain ⟨⟨a1, a2⟩, hla⟩ : ∃ q, l[0]? = some q := ⟨_, List.getElem?_eq_getElem (by rw [← HN.out]; omega)⟩
    obtain ⟨⟨b1, b2⟩, hlb⟩ : ∃ q, l[1]? = some q := ⟨_, List.getElem?_eq_getElem (by rw [← HN.out]; omega)⟩
    obtain ⟨⟨c1, c2⟩, hlc2⟩ : ∃ q, l[2]? = some q := ⟨_, List.getElem?_eq_getElem (by rw [← HN.out]; omega)⟩
    rw [atS_at hla, atS_at hlb, atS_at hlc2, decide_eq_true h3, Bool.true_and] at hdef
    have HD := Lib.hid hdef
    have HS := Lib.hid (fun i (hi : i < n) s W (h : Ext w W) => sides_any l A c n i s W HN.out hc hi (hP.ext h))
    have HP := Lib.hid hP
    obtain ⟨b, o, rfl, hcell⟩ := hP (fun e => by rw [e] at hla; simp at hla)
    have x0 := (hcell 0 _ hla).1
    have x1 := (hcell 0 _ hla).2
    have y0 := (hcell 1 _ hlb).1
    have y1 := (hcell 1 _ hlb).2
    have z0 := (hcell 2 _ hlc2).1
    have z1 := (hcell 2 _ hlc2).2
    simp only [Nat.zero_mul, Nat.one_mul, Nat.add_zero, Nat.reduceMul] at x0 x1 y0 y1 z0 z1
    have HV := Lib.hid (fun W (h : Ext w W) b' (hB : Box W b' 38 #[.slice (some ⟨b, o, none⟩) n c]) => valid_one l _ c n b' W HN.out hlc (by omega) hB (HP.out.ext h))
    have n0 : 0 < n := by omega
    have n1 : (1 : Int) < (n : Int) := by omega
    have n2 : (2 : Int) < (n : Int) := by omega
    have n3 : ¬ (n : Int) < 3 := by omega
    clear hla hlb hlc2 hcell hdef HP
    go_enter Try.func45, Try.ntmps45
    go_wp2_with fail
    refine (HV.out _ (Ext.alloc _ _) _ (Box.new _ _ _)).mono ?_
    rintro e w1 ⟨rfl, hE1⟩
    have hE := (Ext.alloc _ _).trans hE1
    clear hE1 HV
    cases hv : validL [l]
    · have hr : convS l = false := by rw [HD.out, hv]; rfl
      have HR := Lib.hid hr
      clear hr hv
      go_wp2
      go_ret
      exact ⟨ret_eq (by rw [HR.out]; rfl), hE⟩
    · have hr : convS l = (decide (orientS (a1, a2) (b1, b2) (c1, c2) ≠ 0) && (List.range l.length).all fun i => sidesS l i (orientS (a1, a2) (b1, b2) (c1, c2))) := by rw [HD.out, hv, Bool.true_and]
      have HR := Lib.hid hr
      clear hr hv HD
      replace x0 := hE.cell x0
      replace x1 := hE.cell x1
      replace y0 := hE.cell y0
      replace y1 := hE.cell y1
      replace z0 := hE.cell z0
      replace z1 := hE.cell z1
      go_wp2_with fail
      apply wp_region_par' 10 (by kernel_rfl) (by kernel_rfl) rfl
      simp only [List.take_succ_cons, List.take_zero, List.drop_succ_cons, List.drop_zero]
      generalize hW : World.drew _ = W
      have hEW : Ext w1 W := by rw [← hW]; exact Ext.drew _
      clear hW
      have e0 := fun z : Later W => z.cell (hEW.cell x0)
      have e1 := fun z : Later W => z.cell (hEW.cell x1)
      have e2 := fun z : Later W => z.cell (hEW.cell y0)
      have e3 := fun z : Later W => z.cell (hEW.cell y1)
      have e4 := fun z : Later W => z.cell (hEW.cell z0)
      have e5 := fun z : Later W => z.cell (hEW.cell z1)
      clear x0 x1 y0 y1 z0 z1
      iterate 10
        refine parW_step rfl (fun K hK => ?_)
        apply Exists.intro
        refine ⟨fun z => ?_, ?_⟩
        focus
          go_simp
          first
            | rfl
            | with_reducible exact calls_val (Orient_any _ _ _ _ _ _ _)
        go_simp
        refine hK _ ?_
        clear hK K
      refine parW_end (fun z => ?_)
      have hE2 := (hE.trans hEW).trans z.prop
      clear e0 e1 e2 e3 e4 e5 hE hEW
      generalize z.val = Z at *
      clear z
      generalize orientS (a1, a2) (b1, b2) (c1, c2) = s at *
      by_cases hs : s = 0
      · have hr : convS l = false := by rw [HR.out, hs]; rfl
        have HR2 := Lib.hid hr
        subst hs
        clear hr HR
        go_wp2
        go_ret
        exact ⟨ret_eq (by rw [HR2.out]; rfl), hE2⟩
      · have hr : convS l = (List.range l.length).all fun i => sidesS l i s := by rw [HR.out, decide_eq_true hs, Bool.true_and]
        have HR2 := Lib.hid hr
        have d0 : (s == 0) = false := by rw [beq_eq_false_iff_ne]; exact hs
        clear hr HR hs
        go_wp2_with fail
        clear d0
        go_loopw [4, 28] (fun _ i wr => ∃ k : Nat, k ≤ n ∧ i = .int .i64 k ∧ Ext w wr ∧ ∀ t, t < k → sidesS l t s = true) (fun _ i _ => n - (intOf i).toNat)
        case atStart => exact ⟨0, Nat.zero_le _, rfl, hE2, fun j hj => absurd hj (Nat.not_lt_zero j)⟩
        case round =>
          clear hE2
          obtain ⟨k, hk, rfl, hE, hno⟩ := hrel
          have HNO := Lib.hid hno
          clear hno
          by_cases hlt : k < n
          · go_wp2_with fail
            refine (HS.out k hlt s _ hE).mono ?_
            rintro e w3 ⟨rfl, hE3⟩
            have hE4 := hE.trans hE3
            clear hE3
            cases hsd : sidesS l k s
            · have hr : convS l = false := by rw [HR2.out]; exact range_not (by rw [← HN.out]; exact hlt) hsd
              have HR3 := Lib.hid hr
              clear hr hsd
              go_wp2
              go_ret
              exact ⟨ret_eq (by rw [HR3.out]; rfl), hE4⟩
            · have HSD := Lib.hid hsd
              clear hsd
              go_wp2
              go_roundw
              case rel => exact ⟨k + 1, by omega, by go_num, hE4, fun t ht => by
                rcases Nat.lt_succ_iff_lt_or_eq.1 ht with h | rfl
                · exact HNO.out t h
                · exact HSD.out⟩
              case measure => simp [intOf]; omega
          · have hr : convS l = true := by rw [HR2.out]; exact range_all fun t ht => HNO.out t (by rw [← HN.out] at ht; omega)
            have HR3 := Lib.hid hr
            clear hr
            go_wp2
            go_ret
            exact ⟨ret_eq (by rw [HR3.out]; rfl), hE⟩
  · have hr : convS l = false := by rw [hdef, decide_eq_false h3]; rfl
    have HR := Lib.hid hr
    have n3 : (n : Int) < 3 := by omega
    clear hr hdef
    go_enter Try.func45, Try.ntmps45
    go_wp2
    all_goals
      go_ret
      exact ⟨ret_eq (by rw [HR.out]; rfl), Ext.refl w⟩
set_option maxRecDepth 100000 in
set_option maxHeartbeats 800000 in
theorem rIsConvex_any (l : List P2) (A : Option Addr) (c n : Nat) (w : World) (hn : n = l.length) (hlc : n ≤ c) (hc : n ≤ 1000000) (hP : PtsAt w A l) :
    Calls Try.prog 46 #[.slice A n c] w fun e w' => e = .returned (.bool (convS l)) ∧ Ext w w' := by
  have HN := Lib.hid hn
  have hdef : convS l = (decide (3 ≤ n) && validL [l] && decide (orientS (atS l 0) (atS l 1) (atS l 2) ≠ 0) && (List.range l.length).all fun i => sidesS l i (orientS (atS l 0) (atS l 1) (atS l 2))) := by rw [hn]; rfl
  clear hn
  by_cases h3 : 3 ≤ n
  · obtain ⟨⟨a1, a2⟩, hla⟩ : ∃ q, l[0]? = some q := ⟨_, List.getElem?_eq_getElem (by rw [← HN.out]; omega)⟩
    obtain ⟨⟨b1, b2⟩, hlb⟩ : ∃ q, l[1]? = some q := ⟨_, List.getElem?_eq_getElem (by rw [← HN.out]; omega)⟩
    obtain ⟨⟨c1, c2⟩, hlc2⟩ : ∃ q, l[2]? = some q := ⟨_, List.getElem?_eq_getElem (by rw [← HN.out]; omega)⟩
    rw [atS_at hla, atS_at hlb, atS_at hlc2, decide_eq_true h3, Bool.true_and] at hdef
    have HD := Lib.hid hdef
    have HS := Lib.hid (fun i (hi : i < n) s W (h : Ext w W) => bends_any l A c n i s W HN.out hc hi (hP.ext h))
    have HP := Lib.hid hP
    obtain ⟨b, o, rfl, hcell⟩ := hP (fun e => by rw [e] at hla; simp at hla)
    have x0 := (hcell 0 _ hla).1
    have x1 := (hcell 0 _ hla).2
    have y0 := (hcell 1 _ hlb).1
    have y1 := (hcell 1 _ hlb).2
    have z0 := (hcell 2 _ hlc2).1
    have z1 := (hcell 2 _ hlc2).2
    simp only [Nat.zero_mul, Nat.one_mul, Nat.add_zero, Nat.reduceMul] at x0 x1 y0 y1 z0 z1
    have HV := Lib.hid (fun W (h : Ext w W) b' (hB : Box W b' 38 #[.slice (some ⟨b, o, none⟩) n c]) => rvalid_one l _ c n b' W HN.out hlc (by omega) hB (HP.out.ext h))
    have n0 : 0 < n := by omega
    have n1 : (1 : Int) < (n : Int) := by omega
    have n2 : (2 : Int) < (n : Int) := by omega
    have n3 : ¬ (n : Int) < 3 := by omega
    clear hla hlb hlc2 hcell hdef HP
    go_enter Try.func46, Try.ntmps46
    go_wp2_with fail
    refine (HV.out _ (Ext.alloc _ _) _ (Box.new _ _ _)).mono ?_
    rintro e w1 ⟨rfl, hE1⟩
    have hE := (Ext.alloc _ _).trans hE1
    clear hE1 HV
    cases hv : validL [l]
    · have hr : convS l = false := by rw [HD.out, hv]; rfl
      have HR := Lib.hid hr
      clear hr hv
      go_wp2
      go_ret
      exact ⟨ret_eq (by rw [HR.out]; rfl), hE⟩
    · have hr : convS l = (decide (orientS (a1, a2) (b1, b2) (c1, c2) ≠ 0) && (List.range l.length).all fun i => sidesS l i (orientS (a1, a2) (b1, b2) (c1, c2))) := by rw [HD.out, hv, Bool.true_and]
      have HR := Lib.hid hr
      clear hr hv HD
      replace x0 := hE.cell x0
      replace x1 := hE.cell x1
      replace y0 := hE.cell y0
      replace y1 := hE.cell y1
      replace z0 := hE.cell z0
      replace z1 := hE.cell z1
      go_wp2_with fail
      apply wp_region_par' 10 (by kernel_rfl) (by kernel_rfl) rfl
      simp only [List.take_succ_cons, List.take_zero, List.drop_succ_cons, List.drop_zero]
      generalize hW : World.drew _ = W
      have hEW : Ext w1 W := by rw [← hW]; exact Ext.drew _
      clear hW
      have e0 := fun z : Later W => z.cell (hEW.cell x0)
      have e1 := fun z : Later W => z.cell (hEW.cell x1)
      have e2 := fun z : Later W => z.cell (hEW.cell y0)
      have e3 := fun z : Later W => z.cell (hEW.cell y1)
      have e4 := fun z : Later W => z.cell (hEW.cell z0)
      have e5 := fun z : Later W => z.cell (hEW.cell z1)
      clear x0 x1 y0 y1 z0 z1
      iterate 10
        refine parW_step rfl (fun K hK => ?_)
        apply Exists.intro
        refine ⟨fun z => ?_, ?_⟩
        focus
          go_simp
          first
            | rfl
            | with_reducible exact calls_val (rOrient_any _ _ _ _ _ _ _)
        go_simp
        refine hK _ ?_
        clear hK K
      refine parW_end (fun z => ?_)
      have hE2 := (hE.trans hEW).trans z.prop
      clear e0 e1 e2 e3 e4 e5 hE hEW
      generalize z.val = Z at *
      clear z
      generalize orientS (a1, a2) (b1, b2) (c1, c2) = s at *
      have d1 : ¬ (n : Int) ≤ 0 := by omega
      go_wp2_with fail
      go_loopw [4] (fun i wr => ∃ k : Nat, k ≤ n ∧ i = .int .i64 k ∧ Ext w wr ∧ Hid ((0 < k → s ≠ 0) ∧ ∀ t, t < k → sidesS l t s = true)) (fun i _ => n - (intOf i).toNat)
      case atStart => exact ⟨0, Nat.zero_le _, rfl, hE2, ⟨fun h => absurd h (by decide), fun j hj => absurd hj (Nat.not_lt_zero j)⟩⟩
      case round =>
        clear hE2
        obtain ⟨k, hk, rfl, hE, HNO⟩ := hrel
        by_cases hlt : k < n
        · by_cases hs : s = 0
          · have hr : convS l = false := by rw [HR.out, hs]; rfl
            have HR2 := Lib.hid hr
            subst hs
            clear hr HR
            go_wp2
            go_ret
            exact ⟨ret_eq (by rw [HR2.out]; rfl), hE⟩
          · have HS0 := Lib.hid hs
            have hr : convS l = (List.range l.length).all fun i => sidesS l i s := by rw [HR.out, decide_eq_true hs, Bool.true_and]
            have HR2 := Lib.hid hr
            have d0 : (s == 0) = false := by rw [beq_eq_false_iff_ne]; exact hs
            clear hr
            go_wp2_with fail
            refine (HS.out k hlt s _ hE).mono ?_
            rintro e w3 ⟨rfl, hE3⟩
            have hE4 := hE.trans hE3
            clear hE3
            cases hsd : sidesS l k s
            · have hr : convS l = false := by rw [HR2.out]; exact range_not (by rw [← HN.out]; exact hlt) hsd
              have HR3 := Lib.hid hr
              clear hr hsd
              go_wp2
              go_ret
              exact ⟨ret_eq (by rw [HR3.out]; rfl), hE4⟩
            · have HSD := Lib.hid hsd
              clear hsd
              go_wp2
              go_roundw
              case rel => exact ⟨k + 1, by omega, by go_num, hE4, ⟨fun _ => HS0.out, fun t ht => by
                rcases Nat.lt_succ_iff_lt_or_eq.1 ht with h | rfl
                · exact HNO.out.2 t h
                · exact HSD.out⟩⟩
              case measure => simp [intOf]; omega
        · have hr : convS l = true := by
            rw [HR.out, decide_eq_true (HNO.out.1 (by omega)), Bool.true_and]
            exact range_all fun t ht => HNO.out.2 t (by rw [← HN.out] at ht; omega)
          have HR3 := Lib.hid hr
          clear hr
          go_wp2
          go_ret
          exact ⟨ret_eq (by rw [HR3.out]; rfl), hE⟩
  · have hr : convS l = false := by rw [hdef, decide_eq_false h3]; rfl
    have HR := Lib.hid hr
    have n3 : (n : Int) < 3 := by omega
    clear hr hdef
    go_enter Try.func46, Try.ntmps46
    go_wp2
    all_goals
      go_ret
      exact ⟨ret_eq (by rw [HR.out]; rfl), Ext.refl w⟩
end Go.Proofs.Ythfeamlioiaebaa
