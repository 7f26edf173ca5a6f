/- PolygonOrientation: for every slice of slices of points and every slice of points the function returns true, and all that was there is as it was. -/
import Derived.Test.YthfeamlioiaebaaOpen
import Derived.Test.YthfeamlioiaebaaOrient3
set_option linter.unusedVariables false
set_option linter.unusedSimpArgs false
namespace Go.Proofs.Ythfeamlioiaebaa
open Go.ChangeShapes Go.WideShapes Go.ChangeAt Go.RowKit Go.Par Go.Deep Go.Joins

theorem orientL_len (l : List P2) : (orientL l).length ≤ l.length := by
  unfold orientL
  split
  · simp
  · split
    · rw [revS_length]; exact Nat.le_refl _
    · exact Nat.le_refl _
set_option maxRecDepth 100000 in
set_option maxHeartbeats 1600000 in
theorem polygonOrientation_any (L : List (List P2)) (A : Option Addr) (c : Nat) (one : List P2) (A1 : Option Addr) (c1 : Nat) (w : World) (hc : L.length ≤ 17592186044416) (hL : RingsAt w A L)
    (hc1 : one.length ≤ c1) (hb1 : one.length ≤ 17592186044416) (hP : PtsAt w A1 one) :
    Calls Try.prog 7 #[.slice A L.length c, .slice A1 one.length c1] w fun e w' => e = .returned (.bool true) ∧ Ext w w' := by
  have HF := Lib.hid (fun W (h : Ext w W) => few_any L A c W hc (hL.ext h))
  have HV := Lib.hid (fun W (h : Ext w W) => Valid_any L A c W hc (hL.ext h))
  have HR := Lib.hid (fun W (h : Ext w W) => rValid_any L A c W hc (hL.ext h))
  obtain ⟨n, hn⟩ : ∃ n, n = one.length := ⟨_, rfl⟩
  rw [← hn] at hc1 hb1 ⊢
  have HN := Lib.hid hn
  clear hn
  have HA := Lib.hid (fun W (h : Ext w W) => DoubleArea_any one A1 c1 n W HN.out hc1 hb1 (hP.ext h))
  have HB := Lib.hid (fun W (h : Ext w W) => rDoubleArea_any one A1 c1 n W HN.out hc1 hb1 (hP.ext h))
  have HO := Lib.hid (fun (hs : n ≤ 1000000) W (h : Ext w W) => Orient_poly one A1 c1 n W HN.out hc1 hs (hP.ext h))
  have HQ := Lib.hid (fun (hs : n ≤ 1000000) W (h : Ext w W) => refOrient_any one A1 c1 n W HN.out hc1 hs (hP.ext h))
  have HLEN := Lib.hid (show (orientL one).length ≤ n from by rw [HN.out]; exact orientL_len one)
  generalize L.length = m at *
  generalize validL L = v at *
  generalize areaS one = a at *
  go_enter Try.func7, Try.ntmps7
  go_wp2_with fail
  refine (HF.out _ (Ext.refl w)).mono ?_
  rintro e w1 ⟨rfl, hE⟩
  by_cases hg : fewL L = true ∧ n ≤ 400
  · obtain ⟨hf, hn4⟩ := hg
    rw [hf]
    have HO' := Lib.hid (HO.out (by omega))
    have HQ' := Lib.hid (HQ.out (by omega))
    clear HO HQ
    go_wp2_with fail
    refine (HV.out _ hE).mono ?_
    rintro e w2 ⟨rfl, hE2⟩
    have hE' := hE.trans hE2
    clear hE hE2
    go_wp2_with fail
    refine (HR.out _ hE').mono ?_
    rintro e w3 ⟨rfl, hE3⟩
    have hE := hE'.trans hE3
    clear hE' hE3
    go_wp2_with fail
    refine (HA.out _ hE).mono ?_
    rintro e w4 ⟨rfl, hE4⟩
    have hE' := hE.trans hE4
    clear hE hE4
    go_wp2_with fail
    refine (HB.out _ hE').mono ?_
    rintro e w5 ⟨rfl, hE5⟩
    have hE := hE'.trans hE5
    clear hE' hE5
    go_wp2_with fail
    refine (HO'.out _ hE).mono ?_
    rintro e w6 ⟨v6, rfl, hE6, hown6⟩
    have hE' := hE.trans hE6
    obtain ⟨k, hk⟩ : ∃ k, k = (orientL one).length := ⟨_, rfl⟩
    have hk4 : k ≤ 400 := by have := HLEN.out; omega
    obtain ⟨B, d, rfl, hd, hPB⟩ := hown6.at hk.symm (by omega)
    have HK := Lib.hid hk
    clear hE hE6 hown6 hk
    go_wp2_with fail
    refine (HQ'.out _ hE').mono ?_
    rintro e w7 ⟨v7, rfl, hE7, hown7⟩
    have hE := hE'.trans hE7
    obtain ⟨B', d', rfl, hd', hPB'⟩ := hown7.at HK.out.symm (by omega)
    have HRG := Lib.hid (Ring_any (orientL one) (orientL one) B B' d d' k k w7 HK.out HK.out (by omega) (by omega) (hPB.ext hE7) hPB')
    rw [eqS_self] at HRG
    clear hE' hE7 hown7 hPB hPB'
    go_wp2_with fail
    refine HRG.out.mono ?_
    rintro e w8 ⟨rfl, hE8⟩
    have hE' := hE.trans hE8
    clear hE hE8
    go_wp2_with fail
    refine (example_any _).mono ?_
    rintro e w9 ⟨rfl, hE9⟩
    go_wp2
    go_ret
    exact ⟨rfl, hE'.trans hE9⟩
  · by_cases hf : fewL L = true
    · have h : 400 < n := by
        rcases Nat.lt_or_ge 400 n with h | h
        · exact h
        · exact absurd ⟨hf, h⟩ hg
      rw [hf]
      clear hg
      go_wp2_with fail
      refine (example_any _).mono ?_
      rintro e w2 ⟨rfl, hE2⟩
      go_wp2
      go_ret
      exact ⟨rfl, hE.trans hE2⟩
    · rw [Bool.not_eq_true] at hf
      rw [hf]
      clear hg
      go_wp2_with fail
      refine (example_any _).mono ?_
      rintro e w2 ⟨rfl, hE2⟩
      go_wp2
      go_ret
      exact ⟨rfl, hE.trans hE2⟩
end Go.Proofs.Ythfeamlioiaebaa
