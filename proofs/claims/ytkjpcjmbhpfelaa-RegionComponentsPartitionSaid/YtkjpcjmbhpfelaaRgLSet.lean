/- RegionSetOperations: the walk. -/
import Derived.Test.YtkjpcjmbhpfelaaRgEx
set_option linter.unusedVariables false
set_option linter.unusedSimpArgs false
namespace Go.Reg
open Go.Proofs.Ytkjpcjmbhpfelaa
theorem RegionOf.canon {S : Int → Int → Bool} {L M : List R4} (h : RegionOf S L) (hw : InWin S) (k : RegionOf (inL L) M) : M = L := k.uniq (h.self hw) fun _ _ => rfl
end Go.Reg
namespace Go.Proofs.Ytkjpcjmbhpfelaa
open Go.RowKit Go.Par Go.Reg

/-- what the law asks of a result: canonical, and holding the pixel just as S says -/
theorem canon_true {S : Int → Int → Bool} {L : List R4} (h : RegionOf S L) (hw : InWin S) (hl : L.length ≤ 1024) {A : Option Addr} {c n : Nat} (hn : L.length = n) {w : World} (hat : rectE.At w A L) :
    Calls Try.prog 25 #[.slice A n c] w fun e w' => e = .returned (.bool true) ∧ Ext w w' :=
  (IsCanon_any L A n c w hn (by omega) hat).mono fun e w' ⟨M, h1, h2, h3⟩ => ⟨by rw [h2, h.canon hw h1, decide_eq_true ⟨hl, rfl⟩], h3⟩
theorem has_region {S : Int → Int → Bool} {L : List R4} (h : RegionOf S L) (hw : InWin S) (hl : L.length ≤ 1024) {A : Option Addr} {c n : Nat} (hn : L.length = n) {w : World} (hat : rectE.At w A L) (x y : Int) :
    Calls Try.prog 26 #[.slice A n c, .int .i64 x, .int .i64 y] w fun e w' => e = .returned (.bool (S x y)) ∧ Ext w w' := by
  have := pContains_any L A n c x y w hn (by omega) hat
  rw [h.has hw] at this
  exact this
/-- a result, as this law uses it: t says whether the pixel is in it -/
def ResAt (x y : Int) (t : Bool) (v : Value) (er : Int) (w : World) : Prop :=
  (er = 0 ∧ ∃ A n c, v = .slice A n c ∧ (∀ W, Ext w W → Calls Try.prog 25 #[.slice A n c] W fun e w' => e = .returned (.bool true) ∧ Ext W w') ∧
    ∀ W, Ext w W → Calls Try.prog 26 #[.slice A n c, .int .i64 x, .int .i64 y] W fun e w' => e = .returned (.bool t) ∧ Ext W w') ∨ (er = 5 ∧ v = .slice none 0 0)
theorem ResAt.of {B : Nat} {S : Int → Int → Bool} {L : List R4} {v : Value} {er : Int} {w : World} (h : RegRes B S L v er w) (hw : InWin S) (x y : Int) : ResAt x y (S x y) v er w := by
  obtain ⟨hr, ⟨hl, he, hown⟩ | ⟨_, he, hv⟩⟩ := h
  · obtain ⟨A, c, e, _, hat⟩ := hown.at rfl (by omega)
    exact .inl ⟨he, A, _, c, e, fun W hW => canon_true hr hw hl rfl (hat.ext hW), fun W hW => has_region hr hw hl rfl (hat.ext hW) x y⟩
  · exact .inr ⟨he, hv⟩
theorem ResAt.ext {x y : Int} {t : Bool} {v : Value} {er : Int} {w w' : World} (h : ResAt x y t v er w) (he : Ext w w') : ResAt x y t v er w' :=
  h.imp (fun ⟨k1, A, n, c, k2, k3, k4⟩ => ⟨k1, A, n, c, k2, fun W hW => k3 W (he.trans hW), fun W hW => k4 W (he.trans hW)⟩) id
set_option maxRecDepth 100000 in
set_option maxHeartbeats 6400000 in
theorem regionSetOperations_any (a b : List R4) (A1 A2 : Option Addr) (n1 c1 n2 c2 : Nat) (x y : Int) (w : World) (hn1 : a.length = n1) (hn2 : b.length = n2) (h1 : rectE.At w A1 a) (h2 : rectE.At w A2 b) :
    Calls Try.prog 6 #[.slice A1 n1 c1, .slice A2 n2 c2, .int .i64 x, .int .i64 y] w fun e w' => e = .returned (.bool true) ∧ Ext w w' := by
  go_enter Try.func6, Try.ntmps6
  go_wp2_with fail
  refine (few_any _ _ _ _ _ _ _).mono ?_
  rintro e w0 ⟨rfl, rfl⟩
  by_cases hf : n1 ≤ 24 ∧ n2 ≤ 24
  rotate_left
  · rw [decide_eq_false hf]
    clear hf hn1 hn2 h1 h2
    go_wp2_with fail
    refine (example_any _).mono ?_
    rintro e w1 ⟨rfl, hE⟩
    go_wp2
    go_ret
    exact ⟨rfl, hE⟩
  · rw [decide_eq_true hf]
    have HJ := Lib.hid (fun (W : World) (k : Ext w W) => union_any a b A1 A2 n1 c1 n2 c2 W hn1 hn2 (by omega) (by omega) (h1.ext k) (h2.ext k))
    have HM := Lib.hid (fun (W : World) (k : Ext w W) => inter_any a b A1 A2 n1 c1 n2 c2 W hn1 hn2 (by omega) (by omega) (h1.ext k) (h2.ext k))
    have HS := Lib.hid (fun (W : World) (k : Ext w W) => subt_any a b A1 A2 n1 c1 n2 c2 W hn1 hn2 (by omega) (by omega) (h1.ext k) (h2.ext k))
    have HCA := Lib.hid (fun (W : World) (k : Ext w W) => pContains_any a A1 n1 c1 x y W hn1 (by omega) (h1.ext k))
    have HCB := Lib.hid (fun (W : World) (k : Ext w W) => pContains_any b A2 n2 c2 x y W hn2 (by omega) (h2.ext k))
    have HEX := Lib.hid example_any
    have RJ := Lib.hid (fun (W : World) (B : Nat) L v er (h : RegRes B (fun x y => inL a x y || inL b x y) L v er W) => ResAt.of h (keepS_win (keep := fun p q => p || q) rfl a b) x y)
    have RM := Lib.hid (fun (W : World) (B : Nat) L v er (h : RegRes B (fun x y => inL a x y && inL b x y) L v er W) => ResAt.of h (keepS_win (keep := fun p q => p && q) rfl a b) x y)
    have RS := Lib.hid (fun (W : World) (B : Nat) L v er (h : RegRes B (fun x y => inL a x y && !inL b x y) L v er W) => ResAt.of h (keepS_win (keep := fun p q => p && !q) rfl a b) x y)
    clear hn1 hn2 h1 h2 hf
    go_wp2_with fail
    refine (HJ.out _ (Ext.refl _)).mono ?_
    rintro e w1 ⟨v1, r1, L1, rfl, hE1, hr1⟩
    have hres1 := Lib.hid (RJ.out _ _ _ _ _ hr1)
    clear hr1
    go_wp2_with fail
    refine (HM.out _ hE1).mono ?_
    rintro e w2 ⟨v2, r2, L2, rfl, hE2, hr2⟩
    have hres2 := Lib.hid (RM.out _ _ _ _ _ hr2)
    have hE12 := hE1.trans hE2
    clear hr2
    go_wp2_with fail
    refine (HS.out _ hE12).mono ?_
    rintro e w3 ⟨v3, r3, L3, rfl, hE3, hr3⟩
    have hres3 := RS.out _ _ _ _ _ hr3
    replace hres1 := (hres1.out.ext hE2).ext hE3
    replace hres2 := hres2.out.ext hE3
    have hX0 := hE12.trans hE3
    have HX0 := Lib.hid hX0
    clear hr3 hE1 hE2 hE12 hE3 HJ HM HS RJ RM RS hX0
    have hX := Ext.refl w3
    replace HCA := Lib.hid (fun (W : World) (k : Ext w3 W) => HCA.out W (HX0.out.trans k))
    replace HCB := Lib.hid (fun (W : World) (k : Ext w3 W) => HCB.out W (HX0.out.trans k))
    generalize inL a x y = p at *
    generalize inL b x y = q at *
    rcases hres1 with ⟨rfl, B1, m1, d1, rfl, HI1, HC1⟩ | ⟨rfl, rfl⟩
    all_goals rcases hres2 with ⟨rfl, B2, m2, d2, rfl, HI2, HC2⟩ | ⟨rfl, rfl⟩
    all_goals rcases hres3 with ⟨rfl, B3, m3, d3, rfl, HI3, HC3⟩ | ⟨rfl, rfl⟩
    all_goals try replace HI1 := Lib.hid HI1
    all_goals try replace HC1 := Lib.hid HC1
    all_goals try replace HI2 := Lib.hid HI2
    all_goals try replace HC2 := Lib.hid HC2
    all_goals try replace HI3 := Lib.hid HI3
    all_goals try replace HC3 := Lib.hid HC3
    all_goals cases p
    all_goals
      go_wp2_with (first
        | ((go_at_call 25; with_reducible refine (HI1.out _ hX).mono ?_); rintro e w9 ⟨rfl, k9⟩; replace hX := hX.trans k9; clear k9)
        | ((go_at_call 25; with_reducible refine (HI2.out _ hX).mono ?_); rintro e w9 ⟨rfl, k9⟩; replace hX := hX.trans k9; clear k9)
        | ((go_at_call 25; with_reducible refine (HI3.out _ hX).mono ?_); rintro e w9 ⟨rfl, k9⟩; replace hX := hX.trans k9; clear k9)
        | ((go_at_call 26; with_reducible refine (HC1.out _ hX).mono ?_); rintro e w9 ⟨rfl, k9⟩; replace hX := hX.trans k9; clear k9)
        | ((go_at_call 26; with_reducible refine (HC2.out _ hX).mono ?_); rintro e w9 ⟨rfl, k9⟩; replace hX := hX.trans k9; clear k9)
        | ((go_at_call 26; with_reducible refine (HC3.out _ hX).mono ?_); rintro e w9 ⟨rfl, k9⟩; replace hX := hX.trans k9; clear k9)
        | ((go_at_call 26; with_reducible refine (HCA.out _ hX).mono ?_); rintro e w9 ⟨rfl, k9⟩; replace hX := hX.trans k9; clear k9)
        | ((go_at_call 26; with_reducible refine (HCB.out _ hX).mono ?_); rintro e w9 ⟨rfl, k9⟩; replace hX := hX.trans k9; clear k9)
        | ((go_at_call 14; with_reducible refine (HEX.out _).mono ?_); rintro e w9 ⟨rfl, k9⟩; replace hX := hX.trans k9; clear k9))
      go_ret
      exact ⟨ret_eq (by simp), HX0.out.trans hX⟩
end Go.Proofs.Ytkjpcjmbhpfelaa
