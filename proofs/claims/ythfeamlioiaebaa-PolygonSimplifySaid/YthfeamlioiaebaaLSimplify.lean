/- PolygonSimplify: for every slice of points the function returns true, and all that was there is as it was. -/
import Derived.Test.YthfeamlioiaebaaSimpl
import Derived.Test.YthfeamlioiaebaaOrient2
import Derived.Test.YthfeamlioiaebaaExample2
import Derived.Test.YthfeamlioiaebaaOpen
set_option linter.unusedVariables false
set_option linter.unusedSimpArgs false
namespace Go.Proofs.Ythfeamlioiaebaa
open Go.ChangeShapes Go.WideShapes Go.ChangeAt Go.RowKit Go.Par Go.Deep Go.Joins

theorem revS_revS (l : List P2) : revS (revS l) = l := by
  cases l with
  | nil => rfl
  | cons x t => simp [revS]
set_option maxRecDepth 100000 in
set_option maxHeartbeats 800000 in
theorem polygonSimplify_any (one : List P2) (A1 : Option Addr) (c1 : Nat) (w : World) (hc1 : one.length ≤ c1) (hb1 : one.length ≤ 17592186044416) (hP : PtsAt w A1 one) :
    Calls Try.prog 11 #[.slice A1 one.length c1] w fun e w' => e = .returned (.bool true) ∧ Ext w w' := by
  obtain ⟨n, hn⟩ : ∃ n, n = one.length := ⟨_, rfl⟩
  rw [← hn] at hc1 hb1 ⊢
  have HN := Lib.hid hn
  clear hn
  by_cases hn1 : n ≤ 100
  · have HR := Lib.hid (fun W (h : Ext w W) => pReverse_any one A1 c1 n W HN.out hc1 (by omega) (hP.ext h))
    have HQ := Lib.hid (fun W (h : Ext w W) => rReverse_any one A1 c1 n W HN.out (by omega) (hP.ext h))
    have HS := Lib.hid (fun W (h : Ext w W) => Simplify_any one A1 c1 n W HN.out hc1 (by omega) (hP.ext h))
    have HT := Lib.hid (fun W (h : Ext w W) => rSimplify_any one A1 c1 n W HN.out hc1 (by omega) (hP.ext h))
    have HPE := Lib.hid (fun W (h : Ext w W) => hP.ext h)
    have hrl := (revS_length one).trans HN.out.symm
    have HRL := Lib.hid hrl
    have hsl : (simpS one).length ≤ 100 := Nat.le_trans (simpS_laws one).2.2.2.2 (by rw [← HN.out]; exact hn1)
    obtain ⟨m, hm⟩ : ∃ m, m = (simpS one).length := ⟨_, rfl⟩
    rw [← hm] at hsl
    have HM := Lib.hid hm
    clear hm hrl hP
    go_enter Try.func11, Try.ntmps11
    go_wp2_with fail
    refine (HR.out _ (Ext.refl _)).mono ?_
    rintro e w1 ⟨v, rfl, hE1, hown⟩
    obtain ⟨A2, c2, rfl, hc2, hP2⟩ := hown.at HRL.out (by omega)
    clear hown
    go_wp2_with fail
    refine (HQ.out _ hE1).mono ?_
    rintro e w2 ⟨v, rfl, hE2, hown⟩
    obtain ⟨A3, c3, rfl, hc3, hP3⟩ := hown.at HRL.out (by omega)
    have HG := Lib.hid (Ring_any (revS one) (revS one) A2 A3 c2 c3 n n w2 HRL.out.symm HRL.out.symm (by omega) (by omega) (hP2.ext hE2) hP3)
    rw [eqS_self] at HG
    have hEa := hE1.trans hE2
    clear hown hP2 hP3 hE1 hE2 hc2 hc3
    go_wp2_with fail
    refine HG.out.mono ?_
    rintro e w3 ⟨rfl, hE3⟩
    have hEb := hEa.trans hE3
    clear hE3 hEa HG
    go_wp2_with fail
    refine (HS.out _ hEb).mono ?_
    rintro e w4 ⟨v, rfl, hE4, hown⟩
    obtain ⟨A4, c4, rfl, hc4, hP4⟩ := hown.at HM.out.symm (by omega)
    have hEc := hEb.trans hE4
    clear hown hE4 hEb
    go_wp2_with fail
    refine (HT.out _ hEc).mono ?_
    rintro e w5 ⟨v, rfl, hE5, hown⟩
    obtain ⟨A5, c5, rfl, hc5, hP5⟩ := hown.at HM.out.symm (by omega)
    have HG := Lib.hid (Ring_any (simpS one) (simpS one) A4 A5 c4 c5 m m w5 HM.out HM.out (by omega) (by omega) (hP4.ext hE5) hP5)
    rw [eqS_self] at HG
    have hEd := hEc.trans hE5
    clear hown hP4 hP5 hE5 hEc hc4 hc5
    go_wp2_with fail
    refine HG.out.mono ?_
    rintro e w6 ⟨rfl, hE6⟩
    have hEe := hEd.trans hE6
    clear hE6 hEd HG
    go_wp2_with fail
    refine (HR.out _ hEe).mono ?_
    rintro e w7 ⟨v, rfl, hE7, hown⟩
    obtain ⟨A7, c7, rfl, hc7, hP7⟩ := hown.at HRL.out (by omega)
    have HR2 := Lib.hid (pReverse_any (revS one) A7 c7 n w7 HRL.out.symm hc7 (by omega) hP7)
    rw [revS_revS] at HR2
    have hEf := hEe.trans hE7
    clear hown hP7 hE7 hEe hc7
    go_wp2_with fail
    refine HR2.out.mono ?_
    rintro e w8 ⟨v, rfl, hE8, hown⟩
    obtain ⟨A8, c8, rfl, hc8, hP8⟩ := hown.at HN.out.symm (by omega)
    have hEg := hEf.trans hE8
    have HG := Lib.hid (Ring_any one one A8 A1 c8 c1 n n w8 HN.out HN.out (by omega) (by omega) hP8 (HPE.out _ hEg))
    rw [eqS_self] at HG
    clear hown hP8 hE8 hEf hc8 HR2
    go_wp2_with fail
    refine HG.out.mono ?_
    rintro e w9 ⟨rfl, hE9⟩
    have hEh := hEg.trans hE9
    clear hE9 hEg HG
    go_wp2_with fail
    refine (example_any _).mono ?_
    rintro e w10 ⟨rfl, hE10⟩
    go_wp2
    go_ret
    exact ⟨rfl, hEh.trans hE10⟩
  · clear HN
    go_enter Try.func11, Try.ntmps11
    go_wp2_with fail
    refine (example_any _).mono ?_
    rintro e w2 ⟨rfl, hE2⟩
    go_wp2
    go_ret
    exact ⟨rfl, hE2⟩
end Go.Proofs.Ythfeamlioiaebaa
