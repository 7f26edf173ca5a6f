/- PolygonHull: for every slice of points the function returns true, and all that was there is as it was. -/
import Derived.Test.YthfeamlioiaebaaPHull
import Derived.Test.YthfeamlioiaebaaConv2
import Derived.Test.YthfeamlioiaebaaOrient2
import Derived.Test.YthfeamlioiaebaaExample2
import Derived.Test.YthfeamlioiaebaaOpen
set_option linter.unusedVariables false
set_option linter.unusedSimpArgs false
namespace Go.Proofs.Ythfeamlioiaebaa
open Go.ChangeShapes Go.WideShapes Go.ChangeAt Go.RowKit Go.Par Go.Deep Go.Joins

theorem giftF_len {L : List P2} {z : P2} : ∀ (n : Nat) (p : P2) (out : List P2), out.length ≤ L.length + 1 → (giftF L z n p out).length ≤ L.length + 1
  | 0, _, _, h => h
  | n + 1, p, out, h => by
    unfold giftF
    split
    · next k => exact giftF_len n _ _ (by rw [List.length_append]; simp; omega)
    · exact h
theorem hullS_len (l : List P2) : (hullS l).length ≤ l.length + 1 := by
  unfold hullS hullG giftS
  split
  · split
    · exact Nat.zero_le _
    · split
      · exact Nat.zero_le _
      · exact giftF_len _ _ _ (by simp)
  · exact Nat.zero_le _
set_option maxRecDepth 100000 in
set_option maxHeartbeats 800000 in
theorem polygonHull_any (one : List P2) (A1 : Option Addr) (c1 : Nat) (w : World) (hc1 : one.length ≤ c1) (hb1 : one.length ≤ 17592186044416) (hP : PtsAt w A1 one) :
    Calls Try.prog 12 #[.slice A1 one.length c1] w fun e w' => e = .returned (.bool true) ∧ Ext w w' := by
  obtain ⟨n, hn⟩ : ∃ n, n = one.length := ⟨_, rfl⟩
  rw [← hn] at hc1 hb1 ⊢
  have HN := Lib.hid hn
  clear hn
  by_cases hn1 : n ≤ 60
  · have HI := Lib.hid (fun W (h : Ext w W) => IsConvex_any one A1 c1 n W HN.out hc1 (by omega) (hP.ext h))
    have HJ := Lib.hid (fun W (h : Ext w W) => rIsConvex_any one A1 c1 n W HN.out hc1 (by omega) (hP.ext h))
    have HS := Lib.hid (fun W (h : Ext w W) => ConvexHull_any one A1 c1 n W HN.out hc1 (by omega) (hP.ext h))
    have HT := Lib.hid (fun W (h : Ext w W) => rHull_any one A1 c1 n W HN.out hc1 (by omega) (hP.ext h))
    have hsl : (hullS one).length ≤ 61 := Nat.le_trans (hullS_len one) (by rw [← HN.out]; omega)
    obtain ⟨m, hm⟩ : ∃ m, m = (hullS one).length := ⟨_, rfl⟩
    rw [← hm] at hsl
    have HM := Lib.hid hm
    generalize convS one = cv at *
    clear hm hP
    have hcv : (cv == cv) = true := by simp
    go_enter Try.func12, Try.ntmps12
    go_wp2_with fail
    refine (HI.out _ (Ext.refl _)).mono ?_
    rintro e w1 ⟨rfl, hE1⟩
    go_wp2_with fail
    refine (HJ.out _ hE1).mono ?_
    rintro e w2 ⟨rfl, hE2⟩
    have hEa := hE1.trans hE2
    clear hE1 hE2 HI HJ
    go_wp2_with fail
    refine (HS.out _ hEa).mono ?_
    rintro e w4 ⟨v, rfl, hE4, hown⟩
    obtain ⟨A4, c4, rfl, hc4, hP4⟩ := hown.at HM.out.symm (by omega)
    have hEc := hEa.trans hE4
    clear hown hE4 hEa
    go_wp2_with fail
    refine (HT.out _ hEc).mono ?_
    rintro e w5 ⟨v, rfl, hE5, hown⟩
    obtain ⟨A5, c5, rfl, hc5, hP5⟩ := hown.at HM.out.symm (by omega)
    have HG := Lib.hid (Ring_any (hullS one) (hullS one) A4 A5 c4 c5 m m w5 HM.out HM.out (by omega) (by omega) (hP4.ext hE5) hP5)
    rw [eqS_self] at HG
    have hEd := hEc.trans hE5
    clear hown hP4 hP5 hE5 hEc hc4 hc5
    go_wp2_with fail
    refine HG.out.mono ?_
    rintro e w6 ⟨rfl, hE6⟩
    have hEe := hEd.trans hE6
    clear hE6 hEd HG
    go_wp2_with fail
    refine (example_any _).mono ?_
    rintro e w10 ⟨rfl, hE10⟩
    go_wp2
    go_ret
    exact ⟨rfl, hEe.trans hE10⟩
  · clear HN
    go_enter Try.func12, Try.ntmps12
    go_wp2_with fail
    refine (example_any _).mono ?_
    rintro e w2 ⟨rfl, hE2⟩
    go_wp2
    go_ret
    exact ⟨rfl, hE2⟩
end Go.Proofs.Ythfeamlioiaebaa
