/- PolygonHullContains: for every slice of points and every byte the function returns true, and all that was there is as it was. -/
import Derived.Test.YthfeamlioiaebaaPHull
import Derived.Test.YthfeamlioiaebaaHullLaw3
import Derived.Test.YthfeamlioiaebaaConv2
import Derived.Test.YthfeamlioiaebaaOrient2
import Derived.Test.YthfeamlioiaebaaExample2
import Derived.Test.YthfeamlioiaebaaOpen
import Derived.Test.YthfeamlioiaebaaLHull
set_option linter.unusedVariables false
set_option linter.unusedSimpArgs false
namespace Go.Proofs.Ythfeamlioiaebaa
open Go.ChangeShapes Go.WideShapes Go.ChangeAt Go.RowKit Go.Par Go.Deep Go.Joins

def anyS (l : List P2) (p : P2) : Bool := l.any fun q => decide (q = p)
theorem anyS_step {l : List P2} {k : Nat} {q p : P2} (h : l[k]? = some q) : anyS (l.take (k + 1)) p = (anyS (l.take k) p || decide (q = p)) := by
  unfold anyS
  rw [take_snoc h, List.any_append]
  simp
theorem anyS_mem {l : List P2} {p : P2} (h : p ∈ l) : anyS l p = true := List.any_eq_true.2 ⟨p, h, by simp⟩
set_option maxRecDepth 100000 in
set_option maxHeartbeats 800000 in
theorem polygonHullContains_any (one : List P2) (A1 : Option Addr) (c1 : Nat) (kn : Nat) (w : World) (hc1 : one.length ≤ c1) (hb1 : one.length ≤ 17592186044416) (hP : PtsAt w A1 one) (hk : kn ≤ 255) :
    Calls Try.prog 13 #[.slice A1 one.length c1, .int .u8 kn] w fun e w' => e = .returned (.bool true) ∧ Ext w w' := by
  obtain ⟨n, hn⟩ : ∃ n, n = one.length := ⟨_, rfl⟩
  rw [← hn] at hc1 hb1 ⊢
  have HN := Lib.hid hn
  clear hn
  by_cases hg : n ≤ 40 ∧ n ≠ 0
  · obtain ⟨hn1, hn0⟩ := hg
    have HI := Lib.hid (fun W (h : Ext w W) => IsConvex_any one A1 c1 n W HN.out hc1 (by omega) (hP.ext h))
    have HS := Lib.hid (fun W (h : Ext w W) => ConvexHull_any one A1 c1 n W HN.out hc1 (by omega) (hP.ext h))
    have hsl := hullS_len one
    obtain ⟨h, hh⟩ : ∃ h, h = hullS one := ⟨_, rfl⟩
    have HNONE := Lib.hid (fun e : h = [] => hull_none one (by rw [← hh]; exact e))
    have HFACT := Lib.hid (fun e : h ≠ [] => hull_facts one (by rw [← hh]; exact e))
    have HOTH := Lib.hid (fun t => hullS_other one t)
    rw [← hh] at hsl HFACT HS HOTH
    obtain ⟨m, hm⟩ : ∃ m, m = h.length := ⟨_, rfl⟩
    rw [← hm, ← HN.out] at hsl
    have HM := Lib.hid hm
    have HPK := Lib.hid (fun W (k : Ext w W) => hP.ext k)
    obtain ⟨t, ht⟩ : ∃ t, t = kn % n := ⟨_, rfl⟩
    have htn : t < n := by rw [ht]; exact Nat.mod_lt _ (by omega)
    have q1 : (kn : Int).tmod (n : Int) = (t : Int) := by rw [ht]; rfl
    have q2 : (kn : Int) % (n : Int) = (t : Int) := by rw [ht]; rfl
    have htl : t ≤ n := by omega
    have htc : ¬ c1 = t := by omega
    have htcc : t ≤ c1 := by omega
    have d0 : ((n : Int) == 0) = false := by rw [beq_eq_false_iff_ne]; omega
    obtain ⟨b, o, rfl, hcell⟩ := hP (fun e => hn0 (by rw [HN.out, e]; rfl))
    have HCELL := Lib.hid hcell
    clear ht hm hh hcell hP
    go_enter Try.func13, Try.ntmps13
    go_wp2_with fail
    refine (HS.out _ (Ext.refl w)).mono ?_
    rintro e w1 ⟨v, rfl, hE, hownh⟩
    obtain ⟨Ah, ch, rfl, hch, hPh⟩ := hownh.at HM.out.symm (by omega)
    clear hownh HS
    go_wp2_with fail
    apply wp_region_par' 8 (by kernel_rfl) (by kernel_rfl) rfl
    simp only [List.take_succ_cons, List.take_zero, List.drop_succ_cons, List.drop_zero]
    generalize hW : World.drew _ = W
    have hEW1 : Ext w1 W := by rw [← hW]; exact Ext.drew _
    have hEW : Ext w W := hE.trans hEW1
    clear hW
    refine parW_newRow (t := 24) (n := 0) (cs := #[]) rfl rfl rfl (by simp) (fun w1 => by kernel_rfl) ?_
    iterate 3
      refine parW_step rfl (fun K hK => ?_)
      apply Exists.intro
      refine ⟨fun z => ?_, ?_⟩
      focus
        go_simp
        first
          | rfl
          | rfl
      go_simp
      refine hK _ ?_
      clear hK K
    refine parW_rel rfl (ROwn.stable W.heap.size (one.drop t)) (fun x => ?_) ?_
    · intro v hv
      obtain ⟨b0, rfl, hb0, hbx⟩ := hv (show Nat.testBit _ _ = true from by kernel_rfl)
      obtain ⟨v', w', hr, hown, hE2⟩ := run_app0 38 (w := x.val) (B := W.heap.size) (b := b0) (l := one.drop t) (sv := .slice (some ⟨b, o + t * 2, none⟩) (n - t) (c1 - t))
        ⟨_, c1 - t, by rw [List.length_drop, ← HN.out], by rw [List.length_drop, ← HN.out]; omega, by rw [List.length_drop, ← HN.out]; omega, (HPK.out _ (hEW.later x)).drop t⟩ (by rw [List.length_drop, ← HN.out]; omega) x.prop.size hb0 hbx
      exact relStep_app rfl _ _ _ rfl rfl rfl hr hE2 ⟨hown, Nat.le_trans x.prop.size hE2.size⟩
    iterate 3
      refine parW_step rfl (fun K hK => ?_)
      apply Exists.intro
      refine ⟨fun z => ?_, ?_⟩
      focus
        go_simp
        first
          | rfl
          | rfl
      go_simp
      refine hK _ ?_
      clear hK K
    refine parW_fin (fun z => ?_)
    rintro v1 ⟨b0, rfl, _, _⟩ v2 ⟨hown, hsz⟩ hp
    clear hp
    have hWZ := z.prop
    have hPz := HPK.out _ (hEW.trans hWZ)
    generalize z.val = Z at *
    have htk : Pts Z (.slice (some ⟨b, o, none⟩) t c1) (one.take t) := ⟨_, c1, by rw [List.length_take, ← HN.out, Nat.min_eq_left (by omega)], by rw [List.length_take, ← HN.out]; omega, by rw [List.length_take, ← HN.out]; omega, hPz.take t⟩
    have hlen : (one.drop t).length + (one.take t).length ≤ 1000000000 := by rw [List.length_drop, List.length_take, ← HN.out]; omega
    clear z hPz
    simp only [Act.put, List.setIfInBounds_toArray, List.set_cons_succ, List.set_cons_zero]
    go_wp2_with (at_builtin; refine wpList_app rfl _ _ rfl W.heap.size _ _ _ _ rfl rfl hown htk hlen hsz ?_; intro v3 w3 hown3 hg3)
    have hE3 := Ext.grow hWZ hown (Nat.le_refl _) hg3
    clear hown hg3 htk hlen hsz hWZ
    have hrl : (one.drop t ++ one.take t).length = n := by rw [List.length_append, List.length_drop, List.length_take, ← HN.out]; omega
    have HH := Lib.hid (HOTH.out t)
    clear HOTH q1 q2 htc htcc
    generalize one.drop t ++ one.take t = rot at *
    have hEh : Ext w1 w3 := hEW1.trans hE3
    have hEw : Ext w w3 := hEW.trans hE3
    replace hPh := hPh.ext hEh
    obtain ⟨A3, c3, rfl, hlc3, hP3⟩ := hown3.at hrl hb1
    have HRV := Lib.hid (pReverse_any rot A3 c3 n w3 hrl.symm hlc3 (by omega) hP3)
    have HRL := Lib.hid ((revS_length rot).trans hrl)
    clear hown3 hE3 hEW hEW1 hEh hE hP3 hrl
    refine HRV.out.mono ?_
    rintro e w4 ⟨v, rfl, hE4, hown4⟩
    obtain ⟨A4, c4, rfl, hc4, hP4⟩ := hown4.at HRL.out (by omega)
    have HC4 := Lib.hid (ConvexHull_any (revS rot) A4 c4 n w4 HRL.out.symm hc4 (by omega) hP4)
    rw [HH.out] at HC4
    replace hEw := hEw.trans hE4
    replace hPh := hPh.ext hE4
    clear hown4 hE4 hP4 HRV HH
    go_wp2_with fail
    refine HC4.out.mono ?_
    rintro e w5 ⟨v, rfl, hE5, hown5⟩
    obtain ⟨A5, c5, rfl, hc5, hP5⟩ := hown5.at HM.out.symm (by omega)
    replace hEw := hEw.trans hE5
    replace hPh := hPh.ext hE5
    have HG := Lib.hid (Ring_any h h A5 Ah c5 ch m m w5 HM.out HM.out (by omega) (by omega) hP5 hPh)
    rw [eqS_self] at HG
    clear hown5 hE5 hP5 HC4
    go_wp2_with fail
    refine HG.out.mono ?_
    rintro e w6 ⟨rfl, hE6⟩
    replace hEw := hEw.trans hE6
    replace hPh := hPh.ext hE6
    clear hE6 HG
    by_cases hm0 : m = 0
    · have HE := Lib.hid (HNONE.out (List.eq_nil_of_length_eq_zero (by rw [← HM.out]; exact hm0)))
      have dm : ((m : Int) == 0) = true := by rw [hm0]; rfl
      rw [HE.out] at HI
      clear hm0
      go_wp2_with fail
      refine (HI.out _ hEw).mono ?_
      rintro e w7 ⟨rfl, hE7⟩
      go_wp2_with fail
      refine (example_any _).mono ?_
      rintro e w8 ⟨rfl, hE8⟩
      go_wp2
      go_ret
      exact ⟨rfl, (hEw.trans hE7).trans hE8⟩
    · have hhne : h ≠ [] := fun e => hm0 (by rw [HM.out, e]; rfl)
      obtain ⟨f1, f2, f3, f4, f5, f6, f7, f8⟩ := HFACT.out hhne
      have hcv := ring_convex f2 f3 f4 f5 f6
      have har := ring_area f2 f3 f4 f5 f6
      have dm : ((m : Int) == 0) = false := by rw [beq_eq_false_iff_ne]; omega
      have hm3 : 3 ≤ m := by rw [HM.out]; exact f6
      have HR := Lib.hid f2
      have HSUB := Lib.hid f4
      have HVL := Lib.hid (valid_all f1)
      have HIH := Lib.hid (fun W (k : Ext w6 W) => IsConvex_any h Ah ch m W HM.out hch (by omega) (hPh.ext k))
      have HAH := Lib.hid (fun W (k : Ext w6 W) => DoubleArea_any h Ah ch m W HM.out hch (by omega) (hPh.ext k))
      have HCH := Lib.hid (fun W (k : Ext w6 W) => ConvexHull_any h Ah ch m W HM.out hch (by omega) (hPh.ext k))
      have HGH := Lib.hid (fun W (k : Ext w6 W) B d (hB : PtsAt W B h) => Ring_any h h B Ah d ch m m W HM.out HM.out (by omega) (by omega) hB (hPh.ext k))
      rw [hcv] at HIH
      rw [f8] at HCH
      rw [eqS_self] at HGH
      generalize areaS h = a at *
      have da : (a ≤ 0) = False := eq_false (by omega)
      clear f1 f2 f3 f4 f5 f6 f7 f8 hcv har HFACT HNONE hm0 hhne HI
      go_wp2_with fail
      refine (HIH.out _ (Ext.refl _)).mono ?_
      rintro e w7 ⟨rfl, hE7⟩
      go_wp2_with fail
      refine (HAH.out _ hE7).mono ?_
      rintro e w8 ⟨rfl, hE8⟩
      replace hE7 := hE7.trans hE8
      clear hE8
      go_wp2_with fail
      refine (HCH.out _ hE7).mono ?_
      rintro e w9 ⟨v, rfl, hE9, hown9⟩
      obtain ⟨A9, c9, rfl, _, hP9⟩ := hown9.at HM.out.symm (by omega)
      replace hE7 := hE7.trans hE9
      have HG9 := Lib.hid (HGH.out _ hE7 A9 c9 hP9)
      clear hE9 hown9 hP9
      go_wp2_with fail
      refine HG9.out.mono ?_
      rintro e w10 ⟨rfl, hE10⟩
      replace hE7 := hE7.trans hE10
      replace hEw := hEw.trans hE7
      replace hPh := hPh.ext hE7
      clear hE10 hE7 HG9 HGH HCH HAH HIH da dm
      have HPH := Lib.hid hPh
      obtain ⟨bh, oh, rfl, hcellh⟩ := hPh (fun e => by have := HM.out; rw [e] at this; simp at this; omega)
      have HCH := Lib.hid hcellh
      clear hPh hcellh
      go_wp2_with fail
      go_loopw [8, 9, 10] (fun i _ _ wr => ∃ k : Nat, k ≤ m ∧ i = .int .i64 k ∧ Ext w10 wr) (fun i _ _ _ => m - (intOf i).toNat)
      case atStart => exact ⟨0, Nat.zero_le _, rfl, Ext.refl _⟩
      case round =>
        obtain ⟨k, hkm, rfl, hE⟩ := hrel
        by_cases hlt : k < m
        · obtain ⟨k2, hk2⟩ : ∃ k2, k2 = (k + 1) % m := ⟨_, rfl⟩
          have hk2n : k2 < m := by rw [hk2]; exact Nat.mod_lt _ (by omega)
          obtain ⟨⟨a1, a2⟩, hla⟩ : ∃ q, h[k]? = some q := ⟨_, List.getElem?_eq_getElem (by rw [← HM.out]; exact hlt)⟩
          obtain ⟨⟨b1, b2⟩, hlb⟩ : ∃ q, h[k2]? = some q := ⟨_, List.getElem?_eq_getElem (by rw [← HM.out]; exact hk2n)⟩
          have hed := HR.out k (by rw [← HM.out]; exact hlt)
          rw [← HM.out, ← hk2, atS_at hla, atS_at hlb] at hed
          have ha1 : (a1, a2) ∈ one := HSUB.out _ (List.mem_of_getElem? hla)
          have hb1' : (b1, b2) ∈ one := HSUB.out _ (List.mem_of_getElem? hlb)
          have HOR := Lib.hid (fun p (hp : p ∈ one) => edge_orient HVL.out ha1 hb1' hp (hed.2 p hp))
          have HANY := Lib.hid (anyS_mem ha1)
          have x0 := (HCH.out k _ hla).1
          have x1 := (HCH.out k _ hla).2
          have y0 := (HCH.out k2 _ hlb).1
          have y1 := (HCH.out k2 _ hlb).2
          have m1 := tmod_nat (a := k + 1) (n := m) (x := (k : Int) + 1) (by omega)
          have m2 := emod_nat (a := k + 1) (n := m) (x := (k : Int) + 1) (by omega)
          rw [← hk2] at m1 m2
          have q3 : ¬ m = 0 := by omega
          have w1' : IntKind.i64.wrap ((k : Int) + 1) = (k : Int) + 1 := IntWalk.i64_in _ (by omega)
          clear hla hlb hed ha1 hb1' hk2
          go_wp2_with fail
          generalize wr = wo at *
          go_loopw [9, 10] (fun th j wr => ∃ (jn : Nat) (tb : Bool), jn ≤ n ∧ th = .bool tb ∧ j = .int .i64 jn ∧ Ext wo wr ∧ Hid (tb = anyS (one.take jn) (a1, a2))) (fun _ j _ => n - (intOf j).toNat)
          case atStart => exact ⟨0, false, Nat.zero_le _, rfl, rfl, Ext.refl _, Lib.hid rfl⟩
          case round =>
            obtain ⟨jn, tb, hjn, rfl, rfl, hE2, HT⟩ := hrel
            by_cases hlt2 : jn < n
            · obtain ⟨⟨p1, p2⟩, hlp⟩ : ∃ q, one[jn]? = some q := ⟨_, List.getElem?_eq_getElem (by rw [← HN.out]; exact hlt2)⟩
              have hst := anyS_step (p := (a1, a2)) hlp
              rw [← HT.out] at hst
              have HST := Lib.hid hst
              have hor := HOR.out _ (List.mem_of_getElem? hlp)
              have dO : (orientS (a1, a2) (b1, b2) (p1, p2) < 0) = False := eq_false (by omega)
              have hEo := (hEw.trans hE).trans hE2
              have u0 := hEo.cell (HCELL.out jn _ hlp).1
              have u1 := hEo.cell (HCELL.out jn _ hlp).2
              have hEi := hE.trans hE2
              have v0 := hEi.cell x0
              have v1 := hEi.cell x1
              have v2 := hEi.cell y0
              have v3 := hEi.cell y1
              clear hlp hst hor
              cases tb
              · by_cases hpa : p1 = a1 ∧ p2 = a2
                · have HTT := Lib.hid (show true = anyS (one.take (jn + 1)) (a1, a2) from by rw [HST.out, hpa.1, hpa.2]; simp)
                  have d1 : (decide (p1 = a1) && decide (p2 = a2)) = true := by simp [hpa.1, hpa.2]
                  clear HST hpa
                  go_wp2_with fail
                  apply wp_region_par' 12 (by kernel_rfl) (by kernel_rfl) rfl
                  simp only [List.take_succ_cons, List.take_zero, List.drop_succ_cons, List.drop_zero]
                  generalize hW : World.drew _ = W
                  have hEW : Ext wr W := by rw [← hW]; exact Ext.drew _
                  clear hW
                  have e0 := fun z : Later W => z.cell (hEW.cell u0)
                  have e1 := fun z : Later W => z.cell (hEW.cell u1)
                  have e2 := fun z : Later W => z.cell (hEW.cell v0)
                  have e3 := fun z : Later W => z.cell (hEW.cell v1)
                  iterate 12
                    refine parW_step rfl (fun K hK => ?_)
                    apply Exists.intro
                    refine ⟨fun z => ?_, ?_⟩
                    focus
                      go_simp
                      first
                        | rfl
                        | fail
                    go_simp
                    refine hK _ ?_
                    clear hK K
                  refine parW_end (fun z => ?_)
                  have hEz := hEW.later z
                  clear e0 e1 e2 e3
                  replace u0 := hEz.cell u0
                  replace u1 := hEz.cell u1
                  replace v0 := hEz.cell v0
                  replace v1 := hEz.cell v1
                  replace v2 := hEz.cell v2
                  replace v3 := hEz.cell v3
                  replace hE2 := hE2.trans hEz
                  clear hEz
                  generalize z.val = Z at *
                  clear z hEW
                  clear d1
                  go_wp2_with fail
                  apply wp_region_par' 18 (by kernel_rfl) (by kernel_rfl) rfl
                  simp only [List.take_succ_cons, List.take_zero, List.drop_succ_cons, List.drop_zero]
                  generalize hW : World.drew _ = W
                  have hEW : Ext Z W := by rw [← hW]; exact Ext.drew _
                  clear hW
                  have e0 := fun z : Later W => z.cell (hEW.cell u0)
                  have e1 := fun z : Later W => z.cell (hEW.cell u1)
                  have e2 := fun z : Later W => z.cell (hEW.cell v0)
                  have e3 := fun z : Later W => z.cell (hEW.cell v1)
                  have e4 := fun z : Later W => z.cell (hEW.cell v2)
                  have e5 := fun z : Later W => z.cell (hEW.cell v3)
                  iterate 18
                    refine parW_step rfl (fun K hK => ?_)
                    apply Exists.intro
                    refine ⟨fun z => ?_, ?_⟩
                    focus
                      go_simp
                      first
                        | rfl
                        | with_reducible exact calls_val (rOrient_any _ _ _ _ _ _ _)
                    go_simp
                    refine hK _ ?_
                    clear hK K
                  refine parW_end (fun z => ?_)
                  have hEz := hEW.later z
                  replace hE2 := hE2.trans hEz
                  clear e0 e1 e2 e3 e4 e5 u0 u1 v0 v1 v2 v3 hEz m1 m2 w1'
                  generalize z.val = Z2 at *
                  clear z hEW
                  go_wp2
                  go_roundw
                  case rel => exact ⟨jn + 1, true, by omega, rfl, by go_num, hE2, HTT⟩
                  case measure => simp [intOf]; omega
                · have HTT := Lib.hid (show false = anyS (one.take (jn + 1)) (a1, a2) from by
                    rw [HST.out, decide_eq_false (fun e => hpa (by injection e with e1 e2; exact ⟨e1, e2⟩))]
                    rfl)
                  have d1 : (decide (p1 = a1) && decide (p2 = a2)) = false := by
                    rw [Bool.and_eq_false_iff]
                    by_cases h1 : p1 = a1
                    · exact .inr (decide_eq_false fun h2 => hpa ⟨h1, h2⟩)
                    · exact .inl (decide_eq_false h1)
                  clear HST hpa
                  go_wp2_with fail
                  apply wp_region_par' 12 (by kernel_rfl) (by kernel_rfl) rfl
                  simp only [List.take_succ_cons, List.take_zero, List.drop_succ_cons, List.drop_zero]
                  generalize hW : World.drew _ = W
                  have hEW : Ext wr W := by rw [← hW]; exact Ext.drew _
                  clear hW
                  have e0 := fun z : Later W => z.cell (hEW.cell u0)
                  have e1 := fun z : Later W => z.cell (hEW.cell u1)
                  have e2 := fun z : Later W => z.cell (hEW.cell v0)
                  have e3 := fun z : Later W => z.cell (hEW.cell v1)
                  iterate 12
                    refine parW_step rfl (fun K hK => ?_)
                    apply Exists.intro
                    refine ⟨fun z => ?_, ?_⟩
                    focus
                      go_simp
                      first
                        | rfl
                        | fail
                    go_simp
                    refine hK _ ?_
                    clear hK K
                  refine parW_end (fun z => ?_)
                  have hEz := hEW.later z
                  clear e0 e1 e2 e3
                  replace u0 := hEz.cell u0
                  replace u1 := hEz.cell u1
                  replace v0 := hEz.cell v0
                  replace v1 := hEz.cell v1
                  replace v2 := hEz.cell v2
                  replace v3 := hEz.cell v3
                  replace hE2 := hE2.trans hEz
                  clear hEz
                  generalize z.val = Z at *
                  clear z hEW
                  clear d1
                  go_wp2_with fail
                  apply wp_region_par' 18 (by kernel_rfl) (by kernel_rfl) rfl
                  simp only [List.take_succ_cons, List.take_zero, List.drop_succ_cons, List.drop_zero]
                  generalize hW : World.drew _ = W
                  have hEW : Ext Z W := by rw [← hW]; exact Ext.drew _
                  clear hW
                  have e0 := fun z : Later W => z.cell (hEW.cell u0)
                  have e1 := fun z : Later W => z.cell (hEW.cell u1)
                  have e2 := fun z : Later W => z.cell (hEW.cell v0)
                  have e3 := fun z : Later W => z.cell (hEW.cell v1)
                  have e4 := fun z : Later W => z.cell (hEW.cell v2)
                  have e5 := fun z : Later W => z.cell (hEW.cell v3)
                  iterate 18
                    refine parW_step rfl (fun K hK => ?_)
                    apply Exists.intro
                    refine ⟨fun z => ?_, ?_⟩
                    focus
                      go_simp
                      first
                        | rfl
                        | with_reducible exact calls_val (rOrient_any _ _ _ _ _ _ _)
                    go_simp
                    refine hK _ ?_
                    clear hK K
                  refine parW_end (fun z => ?_)
                  have hEz := hEW.later z
                  replace hE2 := hE2.trans hEz
                  clear e0 e1 e2 e3 e4 e5 u0 u1 v0 v1 v2 v3 hEz m1 m2 w1'
                  generalize z.val = Z2 at *
                  clear z hEW
                  go_wp2
                  go_roundw
                  case rel => exact ⟨jn + 1, false, by omega, rfl, by go_num, hE2, HTT⟩
                  case measure => simp [intOf]; omega
              · have HTT := Lib.hid (show true = anyS (one.take (jn + 1)) (a1, a2) from by rw [HST.out]; rfl)
                clear HST
                go_wp2_with fail
                apply wp_region_par' 12 (by kernel_rfl) (by kernel_rfl) rfl
                simp only [List.take_succ_cons, List.take_zero, List.drop_succ_cons, List.drop_zero]
                generalize hW : World.drew _ = W
                have hEW : Ext wr W := by rw [← hW]; exact Ext.drew _
                clear hW
                have e0 := fun z : Later W => z.cell (hEW.cell u0)
                have e1 := fun z : Later W => z.cell (hEW.cell u1)
                have e2 := fun z : Later W => z.cell (hEW.cell v0)
                have e3 := fun z : Later W => z.cell (hEW.cell v1)
                iterate 12
                  refine parW_step rfl (fun K hK => ?_)
                  apply Exists.intro
                  refine ⟨fun z => ?_, ?_⟩
                  focus
                    go_simp
                    first
                      | rfl
                      | fail
                  go_simp
                  refine hK _ ?_
                  clear hK K
                refine parW_end (fun z => ?_)
                have hEz := hEW.later z
                clear e0 e1 e2 e3
                replace u0 := hEz.cell u0
                replace u1 := hEz.cell u1
                replace v0 := hEz.cell v0
                replace v1 := hEz.cell v1
                replace v2 := hEz.cell v2
                replace v3 := hEz.cell v3
                replace hE2 := hE2.trans hEz
                clear hEz
                generalize z.val = Z at *
                clear z hEW
                go_wp2_with fail
                apply wp_region_par' 18 (by kernel_rfl) (by kernel_rfl) rfl
                simp only [List.take_succ_cons, List.take_zero, List.drop_succ_cons, List.drop_zero]
                generalize hW : World.drew _ = W
                have hEW : Ext Z W := by rw [← hW]; exact Ext.drew _
                clear hW
                have e0 := fun z : Later W => z.cell (hEW.cell u0)
                have e1 := fun z : Later W => z.cell (hEW.cell u1)
                have e2 := fun z : Later W => z.cell (hEW.cell v0)
                have e3 := fun z : Later W => z.cell (hEW.cell v1)
                have e4 := fun z : Later W => z.cell (hEW.cell v2)
                have e5 := fun z : Later W => z.cell (hEW.cell v3)
                iterate 18
                  refine parW_step rfl (fun K hK => ?_)
                  apply Exists.intro
                  refine ⟨fun z => ?_, ?_⟩
                  focus
                    go_simp
                    first
                      | rfl
                      | with_reducible exact calls_val (rOrient_any _ _ _ _ _ _ _)
                  go_simp
                  refine hK _ ?_
                  clear hK K
                refine parW_end (fun z => ?_)
                have hEz := hEW.later z
                replace hE2 := hE2.trans hEz
                clear e0 e1 e2 e3 e4 e5 u0 u1 v0 v1 v2 v3 hEz m1 m2 w1'
                generalize z.val = Z2 at *
                clear z hEW
                go_wp2
                go_roundw
                case rel => exact ⟨jn + 1, true, by omega, rfl, by go_num, hE2, HTT⟩
                case measure => simp [intOf]; omega
            · have hfin : one.take jn = one := List.take_of_length_le (by rw [← HN.out]; omega)
              have htt := HT.out
              rw [hfin, HANY.out] at htt
              subst htt
              have hEf := hE.trans hE2
              clear hfin m1 m2 w1' x0 x1 y0 y1
              go_wp2
              go_roundw
              case rel => exact ⟨k + 1, by omega, by go_num, hEf⟩
              case measure => simp [intOf]; omega
        · go_wp2_with fail
          refine (example_any _).mono ?_
          rintro e w11 ⟨rfl, hE11⟩
          go_wp2
          go_ret
          exact ⟨rfl, (hEw.trans hE).trans hE11⟩
  · clear HN
    have hcase : (40 : Int) < (n : Int) ∨ n = 0 := by omega
    rcases hcase with hbig | rfl
    · skip
      go_enter Try.func13, Try.ntmps13
      go_wp2_with fail
      refine (example_any _).mono ?_
      rintro e w2 ⟨rfl, hE2⟩
      go_wp2
      go_ret
      exact ⟨rfl, hE2⟩
    · skip
      go_enter Try.func13, Try.ntmps13
      go_wp2_with fail
      refine (example_any _).mono ?_
      rintro e w2 ⟨rfl, hE2⟩
      go_wp2
      go_ret
      exact ⟨rfl, hE2⟩
end Go.Proofs.Ythfeamlioiaebaa
