/- RegionOperations: the walk. -/
import Derived.Test.YtkjpcjmbhpfelaaRgLBas
set_option linter.unusedVariables false
set_option linter.unusedSimpArgs false
namespace Go.Proofs.Ytkjpcjmbhpfelaa
open Go.RowKit Go.Par Go.Reg

set_option maxRecDepth 100000 in
set_option maxHeartbeats 6400000 in
theorem regionOperations_any (a b : List R4) (A1 A2 : Option Addr) (n1 c1 n2 c2 : Nat) (w : World) (hn1 : a.length = n1) (hn2 : b.length = n2) (h1 : rectE.At w A1 a) (h2 : rectE.At w A2 b) :
    Calls Try.prog 5 #[.slice A1 n1 c1, .slice A2 n2 c2] w fun e w' => e = .returned (.bool true) ∧ Ext w w' := by
  go_enter Try.func5, Try.ntmps5
  go_wp2_with fail
  refine (few_any _ _ _ _ _ _ _).mono ?_
  rintro e w0 ⟨rfl, rfl⟩
  by_cases hf : n1 ≤ 24 ∧ n2 ≤ 24
  rotate_left
  · rw [decide_eq_false hf]
    clear hf hn1 hn2 h1 h2
    go_wp2_with fail
    refine (example_any _).mono ?_
    rintro e w1 ⟨rfl, hE⟩
    go_wp2
    go_ret
    exact ⟨rfl, hE⟩
  · rw [decide_eq_true hf]
    have HEX := Lib.hid (fun W (k : Ext w W) => example_any W)
    have HJ := Lib.hid (fun (W : World) (k : Ext w W) => union_any a b A1 A2 n1 c1 n2 c2 W hn1 hn2 (by omega) (by omega) (h1.ext k) (h2.ext k))
    have HM := Lib.hid (fun (W : World) (k : Ext w W) => inter_any a b A1 A2 n1 c1 n2 c2 W hn1 hn2 (by omega) (by omega) (h1.ext k) (h2.ext k))
    have HS := Lib.hid (fun (W : World) (k : Ext w W) => subt_any a b A1 A2 n1 c1 n2 c2 W hn1 hn2 (by omega) (by omega) (h1.ext k) (h2.ext k))
    have HJ2 := Lib.hid (fun (W : World) (k : Ext w W) => rUnion10_any a b A1 A2 n1 c1 n2 c2 W hn1 hn2 (by omega) (by omega) (h1.ext k) (h2.ext k))
    have HM2 := Lib.hid (fun (W : World) (k : Ext w W) => rInter10_any a b A1 A2 n1 c1 n2 c2 W hn1 hn2 (by omega) (by omega) (h1.ext k) (h2.ext k))
    have HS2 := Lib.hid (fun (W : World) (k : Ext w W) => rSubt10_any a b A1 A2 n1 c1 n2 c2 W hn1 hn2 (by omega) (by omega) (h1.ext k) (h2.ext k))
    have HQQ : ∃ t : Bool, (∀ (W : World), Ext w W → Calls Try.prog 16 #[.slice A1 n1 c1, .slice A2 n2 c2] W fun e w' => e = .returned (.bool t) ∧ Ext W w') ∧ (∀ (W : World), Ext w W → Calls Try.prog 24 #[.slice A1 n1 c1, .slice A2 n2 c2] W fun e w' => e = .returned (.bool t) ∧ Ext W w') := by
      by_cases hc : ∃ L, RegionOf (inL a) L ∧ RegionOf (inL b) L
      · obtain ⟨K, q1, q2⟩ := hc
        refine ⟨true, fun W k => (Equal_any a b A1 A2 n1 c1 n2 c2 W hn1 hn2 (by omega) (by omega) (h1.ext k) (h2.ext k)).mono ?_, fun W k => (rEqual_any a b A1 A2 n1 c1 n2 c2 W hn1 hn2 (by omega) (by omega) (h1.ext k) (h2.ext k)).mono ?_⟩
        all_goals
          rintro e w' ⟨L, M, s1, s2, s3, s4⟩
          have e1 := s1.uniq q1 fun _ _ => rfl
          have e2 := s2.uniq q2 fun _ _ => rfl
          exact ⟨by rw [s3, decide_eq_true (by rw [e1, e2])], s4⟩
      · refine ⟨false, fun W k => (Equal_any a b A1 A2 n1 c1 n2 c2 W hn1 hn2 (by omega) (by omega) (h1.ext k) (h2.ext k)).mono ?_, fun W k => (rEqual_any a b A1 A2 n1 c1 n2 c2 W hn1 hn2 (by omega) (by omega) (h1.ext k) (h2.ext k)).mono ?_⟩
        all_goals
          rintro e w' ⟨L, M, s1, s2, s3, s4⟩
          exact ⟨by rw [s3, decide_eq_false (fun e => hc ⟨L, s1, by rw [e]; exact s2⟩)], s4⟩
    obtain ⟨t, HQ1, HQ2⟩ := HQQ
    replace HQ1 := Lib.hid HQ1
    replace HQ2 := Lib.hid HQ2
    clear hn1 hn2 h1 h2 hf
    have dt : (t == t) = true := by simp
    go_wp2_with fail
    refine (HJ.out _ (Ext.refl _)).mono ?_
    rintro e w1 ⟨v1, r1, L1, rfl, hE1, hr1⟩
    have HR1 := Lib.hid hr1
    have HX1 := Lib.hid hE1
    have HE1 := Lib.hid hE1
    clear hr1 hE1
    go_wp2_with fail
    refine (HM.out _ (HX1.out)).mono ?_
    rintro e w2 ⟨v2, r2, L2, rfl, hE2, hr2⟩
    have HR2 := Lib.hid hr2
    have HX2 := Lib.hid (HX1.out.trans hE2)
    have HE2 := Lib.hid hE2
    clear hr2 hE2
    go_wp2_with fail
    refine (HS.out _ (HX2.out)).mono ?_
    rintro e w3 ⟨v3, r3, L3, rfl, hE3, hr3⟩
    have HR3 := Lib.hid hr3
    have HX3 := Lib.hid (HX2.out.trans hE3)
    have HE3 := Lib.hid hE3
    clear hr3 hE3
    go_wp2_with fail
    refine (HJ2.out _ (HX3.out)).mono ?_
    rintro e w4 ⟨v4, r4, L4, rfl, hE4, hr4⟩
    have HR4 := Lib.hid hr4
    have HX4 := Lib.hid (HX3.out.trans hE4)
    have HE4 := Lib.hid hE4
    clear hr4 hE4
    go_wp2_with fail
    refine (HM2.out _ (HX4.out)).mono ?_
    rintro e w5 ⟨v5, r5, L5, rfl, hE5, hr5⟩
    have HR5 := Lib.hid hr5
    have HX5 := Lib.hid (HX4.out.trans hE5)
    have HE5 := Lib.hid hE5
    clear hr5 hE5
    go_wp2_with fail
    refine (HS2.out _ (HX5.out)).mono ?_
    rintro e w6 ⟨v6, r6, L6, rfl, hE6, hr6⟩
    have HR6 := Lib.hid hr6
    have HX6 := Lib.hid (HX5.out.trans hE6)
    have HE6 := Lib.hid hE6
    clear hr6 hE6
    have k65 := HE6.out
    have k64 := HE5.out.trans k65
    have k63 := HE4.out.trans k64
    have k62 := HE3.out.trans k63
    have k61 := HE2.out.trans k62
    obtain ⟨rfl, B1, m1, d1, B4, d4, rfl, rfl, hrows1⟩ := rows_same HR1.out HR4.out
    have HROW1 := Lib.hid (fun W (k : Ext w6 W) => hrows1 W (k61.trans k) (k64.trans k))
    clear hrows1
    obtain ⟨rfl, B2, m2, d2, B5, d5, rfl, rfl, hrows2⟩ := rows_same HR2.out HR5.out
    have HROW2 := Lib.hid (fun W (k : Ext w6 W) => hrows2 W (k62.trans k) (k65.trans k))
    clear hrows2
    obtain ⟨rfl, B3, m3, d3, B6, d6, rfl, rfl, hrows3⟩ := rows_same HR3.out HR6.out
    have HROW3 := Lib.hid (fun W (k : Ext w6 W) => hrows3 W (k63.trans k) (k))
    clear hrows3
    have HE := Lib.hid HX6.out
    replace HEX := Lib.hid (fun W (k : Ext w6 W) => HEX.out W (HE.out.trans k))
    replace HQ1 := Lib.hid (fun W (k : Ext w6 W) => HQ1.out W (HE.out.trans k))
    replace HQ2 := Lib.hid (fun W (k : Ext w6 W) => HQ2.out W (HE.out.trans k))
    clear k61 k62 k63 k64 k65 HR1 HR2 HR3 HR4 HR5 HR6 HE1 HE2 HE3 HE4 HE5 HE6 HX1 HX2 HX3 HX4 HX5 HX6 HJ HM HS HJ2 HM2 HS2
    have hX := Ext.refl w6
    have dr1 : (r4 == r4) = true := by simp
    have dr2 : (r5 == r5) = true := by simp
    have dr3 : (r6 == r6) = true := by simp
    go_wp2_with (first
          | ((go_at_call 17; with_reducible refine (HROW1.out _ hX).mono ?_); rintro e w9 ⟨rfl, k9⟩; replace hX := hX.trans k9; clear k9)
          | ((go_at_call 17; with_reducible refine (HROW2.out _ hX).mono ?_); rintro e w9 ⟨rfl, k9⟩; replace hX := hX.trans k9; clear k9)
          | ((go_at_call 17; with_reducible refine (HROW3.out _ hX).mono ?_); rintro e w9 ⟨rfl, k9⟩; replace hX := hX.trans k9; clear k9)
          | ((go_at_call 16; with_reducible refine (HQ1.out _ hX).mono ?_); rintro e w9 ⟨rfl, k9⟩; replace hX := hX.trans k9; clear k9)
          | ((go_at_call 24; with_reducible refine (HQ2.out _ hX).mono ?_); rintro e w9 ⟨rfl, k9⟩; replace hX := hX.trans k9; clear k9)
          | ((go_at_call 14; with_reducible refine (HEX.out _ hX).mono ?_); rintro e w9 ⟨rfl, k9⟩; replace hX := hX.trans k9; clear k9))
    go_ret
    exact ⟨ret_eq (by simp), HE.out.trans hX⟩
end Go.Proofs.Ytkjpcjmbhpfelaa
