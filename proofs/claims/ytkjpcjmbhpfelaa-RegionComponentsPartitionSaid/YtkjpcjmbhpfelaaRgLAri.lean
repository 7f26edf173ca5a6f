/- RegionAreaIdentities: the walk. -/
import Derived.Test.YtkjpcjmbhpfelaaRgLSet
set_option linter.unusedVariables false
set_option linter.unusedSimpArgs false
namespace Go.Proofs.Ytkjpcjmbhpfelaa
open Go.RowKit Go.Par Go.Reg

theorem box_region {S : Int → Int → Bool} {L : List R4} (h : RegionOf S L) (hw : InWin S) : IsBox S (boxL L) := (IsBox.list L).congr fun x y => h.has hw x y
set_option maxRecDepth 100000 in
set_option maxHeartbeats 6400000 in
theorem regionAreaIdentities_any (a b : List R4) (A1 A2 : Option Addr) (n1 c1 n2 c2 : Nat) (w : World) (hn1 : a.length = n1) (hn2 : b.length = n2) (h1 : rectE.At w A1 a) (h2 : rectE.At w A2 b) :
    Calls Try.prog 8 #[.slice A1 n1 c1, .slice A2 n2 c2] w fun e w' => e = .returned (.bool true) ∧ Ext w w' := by
  go_enter Try.func8, Try.ntmps8
  go_wp2_with fail
  refine (few_any _ _ _ _ _ _ _).mono ?_
  rintro e w0 ⟨rfl, rfl⟩
  by_cases hf : n1 ≤ 24 ∧ n2 ≤ 24
  rotate_left
  · rw [decide_eq_false hf]
    clear hf hn1 hn2 h1 h2
    go_wp2_with fail
    refine (example_any _).mono ?_
    rintro e w1 ⟨rfl, hE⟩
    go_wp2
    go_ret
    exact ⟨rfl, hE⟩
  · rw [decide_eq_true hf]
    have HEX := Lib.hid example_any
    have HJ := Lib.hid (fun (W : World) (k : Ext w W) => union_any a b A1 A2 n1 c1 n2 c2 W hn1 hn2 (by omega) (by omega) (h1.ext k) (h2.ext k))
    have HM := Lib.hid (fun (W : World) (k : Ext w W) => inter_any a b A1 A2 n1 c1 n2 c2 W hn1 hn2 (by omega) (by omega) (h1.ext k) (h2.ext k))
    have HS := Lib.hid (fun (W : World) (k : Ext w W) => subt_any a b A1 A2 n1 c1 n2 c2 W hn1 hn2 (by omega) (by omega) (h1.ext k) (h2.ext k))
    have HAA := Lib.hid (fun (W : World) (k : Ext w W) => Area_any a A1 n1 c1 W hn1 (by omega) (h1.ext k))
    have HAB := Lib.hid (fun (W : World) (k : Ext w W) => Area_any b A2 n2 c2 W hn2 (by omega) (h2.ext k))
    have HBA := Lib.hid (fun (W : World) (k : Ext w W) => Bounds_any a A1 n1 c1 W hn1 (by omega) (h1.ext k))
    have HBB := Lib.hid (fun (W : World) (k : Ext w W) => Bounds_any b A2 n2 c2 W hn2 (by omega) (h2.ext k))
    have HWJ := Lib.hid (show InWin (fun x y => inL a x y || inL b x y) from keepS_win (keep := fun p q => p || q) rfl a b)
    have HWM := Lib.hid (show InWin (fun x y => inL a x y && inL b x y) from keepS_win (keep := fun p q => p && q) rfl a b)
    have HWS := Lib.hid (show InWin (fun x y => inL a x y && !inL b x y) from keepS_win (keep := fun p q => p && !q) rfl a b)
    clear hn1 hn2 h1 h2 hf
    go_wp2_with fail
    refine (HJ.out _ (Ext.refl _)).mono ?_
    rintro e w1 ⟨v1, r1, L1, rfl, hE1, hr1, hres1⟩
    have HR1 := Lib.hid hres1
    clear hres1
    go_wp2_with fail
    refine (HM.out _ hE1).mono ?_
    rintro e w2 ⟨v2, r2, L2, rfl, hE2, hr2, hres2⟩
    have hE12 := hE1.trans hE2
    have HR2 := Lib.hid hres2
    clear hres2
    go_wp2_with fail
    refine (HS.out _ hE12).mono ?_
    rintro e w3 ⟨v3, r3, L3, rfl, hE3, hr3, hres3⟩
    have hE13 := hE2.trans hE3
    have HE := Lib.hid (hE12.trans hE3)
    clear HJ HM HS
    have hres1 := HR1.out
    have hres2 := HR2.out
    clear HR1 HR2
    obtain ⟨k1, rfl, own1⟩ | ⟨k1, rfl, rfl⟩ := hres1
    · obtain ⟨k2, rfl, own2⟩ | ⟨k2, rfl, rfl⟩ := hres2
      · obtain ⟨k3, rfl, own3⟩ | ⟨k3, rfl, rfl⟩ := hres3
        · obtain ⟨B1, d1, rfl, _, hat1⟩ := own1.at (n := L1.length) rfl (by omega)
          obtain ⟨B2, d2, rfl, _, hat2⟩ := own2.at (n := L2.length) rfl (by omega)
          obtain ⟨B3, d3, rfl, _, hat3⟩ := own3.at (n := L3.length) rfl (by omega)
          replace hat1 := hat1.ext hE13
          replace hat2 := hat2.ext hE3
          have e1 : pixCount (inL L1) = pixCount (fun x y => inL a x y || inL b x y) := pixCount_congr fun x y => hr1.has HWJ.out x y
          have e2 : pixCount (inL L2) = pixCount (fun x y => inL a x y && inL b x y) := pixCount_congr fun x y => hr2.has HWM.out x y
          have e3 : pixCount (inL L3) = pixCount (fun x y => inL a x y && !inL b x y) := pixCount_congr fun x y => hr3.has HWS.out x y
          have s1 := pixCount_add (fun x y => inL a x y || inL b x y) (fun x y => inL a x y && inL b x y) (inL a) (inL b) (fun x y => by cases inL a x y <;> cases inL b x y <;> rfl)
          have s2 := pixCount_add (fun x y => inL a x y && !inL b x y) (fun x y => inL a x y && inL b x y) (inL a) (fun _ _ => false) (fun x y => by cases inL a x y <;> cases inL b x y <;> rfl)
          have s3 : pixCount (fun _ _ => false) = 0 := by
            unfold pixCount
            have : (fun y : Int => sumI (fun x => Go.Reg.one false) (-4096) 8192) = fun _ => 0 := funext fun y => sumI_zero _ _
            rw [this, sumI_zero]
          have HJA := Lib.hid (fun W (k : Ext w3 W) => Area_any L1 B1 L1.length d1 W rfl (by omega) (hat1.ext k))
          have HMA := Lib.hid (fun W (k : Ext w3 W) => Area_any L2 B2 L2.length d2 W rfl (by omega) (hat2.ext k))
          have HSA := Lib.hid (fun W (k : Ext w3 W) => Area_any L3 B3 L3.length d3 W rfl (by omega) (hat3.ext k))
          have HJB := Lib.hid (fun W (k : Ext w3 W) => Bounds_any L1 B1 L1.length d1 W rfl (by omega) (hat1.ext k))
          have hbox : boxL L1 = unionS (boxL a) (boxL b) := (box_region hr1 HWJ.out).uniq ((IsBox.list a).union (IsBox.list b))
          replace HAA := Lib.hid (fun W (k : Ext w3 W) => HAA.out W (HE.out.trans k))
          replace HAB := Lib.hid (fun W (k : Ext w3 W) => HAB.out W (HE.out.trans k))
          replace HBA := Lib.hid (fun W (k : Ext w3 W) => HBA.out W (HE.out.trans k))
          replace HBB := Lib.hid (fun W (k : Ext w3 W) => HBB.out W (HE.out.trans k))
          have b1 := pixCount_bd (fun x y => inL a x y || inL b x y)
          have b2 := pixCount_bd (fun x y => inL a x y && inL b x y)
          have b3 := pixCount_bd (fun x y => inL a x y && !inL b x y)
          have b4 := pixCount_bd (inL a)
          have b5 := pixCount_bd (inL b)
          rw [e1] at HJA
          rw [e2] at HMA
          rw [e3] at HSA
          rw [s3] at s2
          clear e1 e2 e3 s3 hr1 hr2 hr3 hat1 hat2 hat3 k1 k2 k3 own1 own2 own3 hE1 hE2 hE3 hE12 hE13 HWJ HWM HWS
          generalize pixCount (fun x y => inL a x y || inL b x y) = pj at *
          generalize pixCount (fun x y => inL a x y && inL b x y) = pm at *
          generalize pixCount (fun x y => inL a x y && !inL b x y) = ps at *
          generalize pixCount (inL a) = pa at *
          generalize pixCount (inL b) = pb at *
          generalize L1.length = m1 at *
          generalize L2.length = m2 at *
          generalize L3.length = m3 at *
          have w1' : IntKind.i64.wrap (pj + pm) = pa + pb := (IntWalk.i64_in _ (by omega)).trans s1
          have w2' : IntKind.i64.wrap (pa + pb) = pa + pb := IntWalk.i64_in _ (by omega)
          have w3' : IntKind.i64.wrap (ps + pm) = pa := (IntWalk.i64_in _ (by omega)).trans (by omega)
          have HU := Lib.hid (fun W => rUnion_any (boxL a).1 (boxL a).2.1 (boxL a).2.2.1 (boxL a).2.2.2 (boxL b).1 (boxL b).2.1 (boxL b).2.2.1 (boxL b).2.2.2 W)
          rw [show (((boxL a).1, (boxL a).2.1, (boxL a).2.2.1, (boxL a).2.2.2) : R4) = boxL a from rfl, show (((boxL b).1, (boxL b).2.1, (boxL b).2.2.1, (boxL b).2.2.2) : R4) = boxL b from rfl, ← hbox] at HU
          clear b1 b2 b3 b4 b5 s1 s2 hbox
          generalize boxL L1 = bj at *
          generalize boxL a = ba at *
          generalize boxL b = bb at *
          obtain ⟨j0, j1, j2, j3⟩ := bj
          obtain ⟨a0, a1, a2, a3⟩ := ba
          obtain ⟨b0, b1, b2, b3⟩ := bb
          unfold rectV at HJB HBA HBB HU
          dsimp only at HU
          have hX := Ext.refl w3
          have dq : (pa + pb == pa + pb) = true := by simp
          have dq2 : (pa == pa) = true := by simp
          go_wp2_with (first
            | ((go_at_call 29; with_reducible refine (HJA.out _ hX).mono ?_); rintro e w9 ⟨rfl, k9⟩; replace hX := hX.trans k9; clear k9)
            | ((go_at_call 29; with_reducible refine (HMA.out _ hX).mono ?_); rintro e w9 ⟨rfl, k9⟩; replace hX := hX.trans k9; clear k9)
            | ((go_at_call 29; with_reducible refine (HSA.out _ hX).mono ?_); rintro e w9 ⟨rfl, k9⟩; replace hX := hX.trans k9; clear k9)
            | ((go_at_call 29; with_reducible refine (HAA.out _ hX).mono ?_); rintro e w9 ⟨rfl, k9⟩; replace hX := hX.trans k9; clear k9)
            | ((go_at_call 29; with_reducible refine (HAB.out _ hX).mono ?_); rintro e w9 ⟨rfl, k9⟩; replace hX := hX.trans k9; clear k9)
            | ((go_at_call 31; with_reducible refine (HJB.out _ hX).mono ?_); rintro e w9 ⟨rfl, k9⟩; replace hX := hX.trans k9; clear k9)
            | ((go_at_call 31; with_reducible refine (HBA.out _ hX).mono ?_); rintro e w9 ⟨rfl, k9⟩; replace hX := hX.trans k9; clear k9)
            | ((go_at_call 31; with_reducible refine (HBB.out _ hX).mono ?_); rintro e w9 ⟨rfl, k9⟩; replace hX := hX.trans k9; clear k9)
            | ((go_at_call 33; with_reducible refine (HU.out _).mono ?_); rintro e w9 ⟨rfl, k9⟩; replace hX := hX.trans k9; clear k9)
            | ((go_at_call 14; with_reducible refine (HEX.out _).mono ?_); rintro e w9 ⟨rfl, k9⟩; replace hX := hX.trans k9; clear k9))
          go_ret
          exact ⟨ret_eq (by simp), HE.out.trans hX⟩
        · clear hr1 hr2 hr3 k1 k2 k3 HWJ HWM HWS
          go_wp2_with fail
          refine (HEX.out _).mono ?_
          rintro e w8 ⟨rfl, k8⟩
          go_wp2
          go_ret
          exact ⟨ret_eq (by simp), HE.out.trans k8⟩
      · clear hr1 hr2 hr3 k1 k2 HWJ HWM HWS hres3
        go_wp2_with fail
        refine (HEX.out _).mono ?_
        rintro e w8 ⟨rfl, k8⟩
        go_wp2
        go_ret
        exact ⟨ret_eq (by simp), HE.out.trans k8⟩
    · clear hr1 hr2 hr3 k1 HWJ HWM HWS hres3 hres2
      go_wp2_with fail
      refine (HEX.out _).mono ?_
      rintro e w8 ⟨rfl, k8⟩
      go_wp2
      go_ret
      exact ⟨ret_eq (by simp), HE.out.trans k8⟩
end Go.Proofs.Ytkjpcjmbhpfelaa
