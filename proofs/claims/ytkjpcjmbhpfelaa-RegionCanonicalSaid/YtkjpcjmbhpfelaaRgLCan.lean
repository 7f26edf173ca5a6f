/- RegionCanonical: the walk. -/
import Derived.Test.YtkjpcjmbhpfelaaRgLSet
set_option linter.unusedVariables false
set_option linter.unusedSimpArgs false
namespace Go.Proofs.Ytkjpcjmbhpfelaa
open Go.RowKit Go.Par Go.Reg

set_option maxRecDepth 100000 in
set_option maxHeartbeats 6400000 in
theorem regionCanonical_any (a b : List R4) (A1 A2 : Option Addr) (n1 c1 n2 c2 : Nat) (w : World) (hn1 : a.length = n1) (hn2 : b.length = n2) (h1 : rectE.At w A1 a) (h2 : rectE.At w A2 b) :
    Calls Try.prog 3 #[.slice A1 n1 c1, .slice A2 n2 c2] w fun e w' => e = .returned (.bool true) ∧ Ext w w' := by
  go_enter Try.func3, Try.ntmps3
  go_wp2_with fail
  refine (few_any _ _ _ _ _ _ _).mono ?_
  rintro e w0 ⟨rfl, rfl⟩
  by_cases hf : n1 ≤ 24 ∧ n2 ≤ 24
  rotate_left
  · rw [decide_eq_false hf]
    clear hf hn1 hn2 h1 h2
    go_wp2_with fail
    refine (example_any _).mono ?_
    rintro e w1 ⟨rfl, hE⟩
    go_wp2
    go_ret
    exact ⟨rfl, hE⟩
  · rw [decide_eq_true hf]
    have HEX := Lib.hid example_any
    have HK := Lib.hid (fun (W : World) (k : Ext w W) => New_any a A1 n1 c1 W hn1 (by omega) (h1.ext k))
    have HL := Lib.hid (fun (W : World) (k : Ext w W) => New_any b A2 n2 c2 W hn2 (by omega) (h2.ext k))
    have HF := Lib.hid hf
    clear hf
    go_wp2_with fail
    refine (HK.out _ (Ext.refl _)).mono ?_
    rintro e w1 ⟨v1, r1, L1, rfl, hE1, hr1, hres1⟩
    go_wp2_with fail
    refine (HL.out _ hE1).mono ?_
    rintro e w2 ⟨v2, r2, L2, rfl, hE2, hr2, hres2⟩
    have HE := Lib.hid (hE1.trans hE2)
    have hX := Ext.refl w2
    obtain ⟨k1, rfl, own1⟩ | ⟨k1, rfl, rfl⟩ := hres1
    · obtain ⟨k2, rfl, own2⟩ | ⟨k2, rfl, rfl⟩ := hres2
      · obtain ⟨B1, d1, rfl, _, hat1⟩ := own1.at (n := L1.length) rfl (by omega)
        obtain ⟨B2, d2, rfl, _, hat2⟩ := own2.at (n := L2.length) rfl (by omega)
        replace hat1 := hat1.ext hE2
        have HNK := Lib.hid (show Calls Try.prog 15 #[.slice B1 L1.length d1] w2 fun e w' => ∃ A c, e = .returned (.tuple #[.slice A L1.length c, .int .i64 0]) ∧ Ext w2 w' ∧ rectE.At w' A L1 from
          (New_any L1 B1 L1.length d1 w2 rfl (by omega) hat1).mono fun e w' ⟨v, er, M, e1, e2, e3, e4⟩ => by
            have hm := hr1.canon (inL_win a) e3
            subst hm
            obtain ⟨_, rfl, own⟩ | ⟨q, _, _⟩ := e4
            · obtain ⟨A, c, rfl, _, hat⟩ := own.at (n := M.length) rfl (by omega)
              exact ⟨A, c, e1, e2, hat⟩
            · omega)
        have HEQ := Lib.hid (fun W (k : Ext w2 W) => show Calls Try.prog 16 #[.slice A1 n1 c1, .slice A2 n2 c2] W fun e w' => e = .returned (.bool (decide (L1 = L2))) ∧ Ext W w' from
          (Equal_any a b A1 A2 n1 c1 n2 c2 W hn1 hn2 (by have := HF.out; omega) (by have := HF.out; omega) ((h1.ext HE.out).ext k) ((h2.ext HE.out).ext k)).mono fun e w' ⟨M, N, e1, e2, e3, e4⟩ => by
            rw [e1.uniq hr1 fun _ _ => rfl, e2.uniq hr2 fun _ _ => rfl] at e3
            exact ⟨e3, e4⟩)
        have HEK := Lib.hid (fun W (k : Ext w2 W) => show Calls Try.prog 16 #[.slice A1 n1 c1, .slice B1 L1.length d1] W fun e w' => e = .returned (.bool true) ∧ Ext W w' from
          (Equal_any a L1 A1 B1 n1 c1 L1.length d1 W hn1 rfl (by have := HF.out; omega) (by omega) ((h1.ext HE.out).ext k) (hat1.ext k)).mono fun e w' ⟨M, N, e1, e2, e3, e4⟩ => by
            rw [e1.uniq hr1 fun _ _ => rfl, hr1.canon (inL_win a) e2, decide_eq_true rfl] at e3
            exact ⟨e3, e4⟩)
        have HRW := Lib.hid (fun W (k : Ext w2 W) => Rows_any L1 L2 B1 B2 d1 d2 L1.length L2.length W rfl rfl (by omega) (by omega) (hat1.ext k) (hat2.ext k))
        have HRM := Lib.hid (fun A c W0 (hA : rectE.At W0 A L1) W (k0 : Ext w2 W0) (k : Ext W0 W) => Rows_any L1 L1 A B1 c d1 L1.length L1.length W rfl rfl (by omega) (by omega) (hA.ext k) ((hat1.ext k0).ext k))
        clear hn1 hn2 h1 h2 HK HL hr1 hr2 k1 k2 hE1 hE2 own1 own2 hat1 hat2
        generalize decide (L1 = L2) = dd at *
        generalize L1.length = m1 at *
        generalize L2.length = m2 at *
        go_wp2_with fail
        refine HNK.out.mono ?_
        rintro e w3 ⟨A, c, rfl, hE3, hat3⟩
        have HR3 := Lib.hid (fun W (k : Ext w3 W) => HRM.out A c w3 hat3 W hE3 k)
        replace hX := hE3
        have hX3 := Ext.refl w3
        clear hat3 HRM HNK
        go_wp2_with fail
        refine (HEQ.out _ hE3).mono ?_
        rintro e w4 ⟨rfl, k4⟩
        replace hX := hX.trans k4
        replace hX3 := hX3.trans k4
        go_wp2_with fail
        refine (HRW.out _ hX).mono ?_
        rintro e w5 ⟨rfl, k5⟩
        replace hX := hX.trans k5
        replace hX3 := hX3.trans k5
        have dq : (dd == dd) = true := by simp
        go_wp2_with fail
        refine (HEK.out _ hX).mono ?_
        rintro e w6 ⟨rfl, k6⟩
        replace hX := hX.trans k6
        replace hX3 := hX3.trans k6
        go_wp2_with fail
        refine (HR3.out _ hX3).mono ?_
        rintro e w7 ⟨rfl, k7⟩
        replace hX := hX.trans k7
        go_wp2_with fail
        refine (HEX.out _).mono ?_
        rintro e w8 ⟨rfl, k8⟩
        go_wp2
        go_ret
        exact ⟨ret_eq (by simp), HE.out.trans (hX.trans k8)⟩
      · obtain ⟨B1, d1, rfl, _, _⟩ := own1.at (n := L1.length) rfl (by omega)
        clear hn1 hn2 h1 h2 HK HL hr1 hr2 k1 k2 hE1 hE2 own1
        go_wp2_with fail
        refine (HEX.out _).mono ?_
        rintro e w8 ⟨rfl, k8⟩
        go_wp2
        go_ret
        exact ⟨ret_eq (by simp), HE.out.trans k8⟩
    · obtain ⟨k2, rfl, own2⟩ | ⟨k2, rfl, rfl⟩ := hres2
      · obtain ⟨B1, d1, rfl, _, _⟩ := own2.at (n := L2.length) rfl (by omega)
        clear hn1 hn2 h1 h2 HK HL hr1 hr2 k1 k2 hE1 hE2 own2
        go_wp2_with fail
        refine (HEX.out _).mono ?_
        rintro e w8 ⟨rfl, k8⟩
        go_wp2
        go_ret
        exact ⟨ret_eq (by simp), HE.out.trans k8⟩
      · clear hn1 hn2 h1 h2 HK HL hr1 hr2 k1 k2 hE1 hE2
        go_wp2_with fail
        refine (HEX.out _).mono ?_
        rintro e w8 ⟨rfl, k8⟩
        go_wp2
        go_ret
        exact ⟨ret_eq (by simp), HE.out.trans k8⟩
end Go.Proofs.Ytkjpcjmbhpfelaa
