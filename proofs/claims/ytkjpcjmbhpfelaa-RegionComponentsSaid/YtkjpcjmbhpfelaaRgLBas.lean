/- RegionBasics: the walk. -/
import Derived.Test.YtkjpcjmbhpfelaaRgNewR
import Derived.Test.YtkjpcjmbhpfelaaRgLAri
set_option linter.unusedVariables false
set_option linter.unusedSimpArgs false
namespace Go.Proofs.Ytkjpcjmbhpfelaa
open Go.RowKit Go.Par Go.Reg

/-- two results of one region: the same rows, the same error -/
theorem rows_same {B B' : Nat} {S : Int → Int → Bool} {L L' : List R4} {v v' : Value} {er er' : Int} {w w' : World} (h : RegRes B S L v er w) (k : RegRes B' S L' v' er' w') :
    er' = er ∧ ∃ A n c A' c', v = .slice A n c ∧ v' = .slice A' n c' ∧ ∀ W, Ext w W → Ext w' W → Calls Try.prog 17 #[v, v'] W fun e w'' => e = .returned (.bool true) ∧ Ext W w'' := by
  obtain ⟨h1, h2⟩ := h
  obtain ⟨k1, k2⟩ := k
  have e : L = L' := h1.uniq k1 fun _ _ => rfl
  subst e
  rcases h2 with ⟨a1, rfl, own1⟩ | ⟨a1, rfl, rfl⟩
  · rcases k2 with ⟨b1, rfl, own2⟩ | ⟨b1, _, _⟩
    · obtain ⟨A, c, rfl, _, hat⟩ := own1.at (n := L.length) rfl (by omega)
      obtain ⟨A', c', rfl, _, hat'⟩ := own2.at (n := L.length) rfl (by omega)
      refine ⟨rfl, A, _, c, A', c', rfl, rfl, fun W k1 k2 => ?_⟩
      have := Rows_any L L A A' c c' L.length L.length W rfl rfl (by omega) (by omega) (hat.ext k1) (hat'.ext k2)
      rw [decide_eq_true rfl] at this
      exact this
    · omega
  · rcases k2 with ⟨b1, _, _⟩ | ⟨b1, rfl, rfl⟩
    · omega
    · refine ⟨rfl, none, 0, 0, none, 0, rfl, rfl, fun W _ _ => ?_⟩
      have := Rows_any [] [] none none 0 0 0 0 W rfl rfl (by omega) (by omega) (EL.At.nil _ _) (EL.At.nil _ _)
      rw [decide_eq_true rfl] at this
      exact this
set_option maxRecDepth 100000 in
set_option maxHeartbeats 6400000 in
theorem regionBasics_any (l : List R4) (A : Option Addr) (n c : Nat) (w : World) (hn : l.length = n) (h1 : rectE.At w A l) :
    Calls Try.prog 7 #[.slice A n c] w fun e w' => e = .returned (.bool true) ∧ Ext w w' := by
  go_enter Try.func7, Try.ntmps7
  go_wp2_with fail
  refine (few_any _ _ _ _ _ _ _).mono ?_
  rintro e w0 ⟨rfl, rfl⟩
  by_cases hf : n ≤ 24 ∧ 0 ≤ 24
  rotate_left
  · rw [decide_eq_false hf]
    clear hf hn h1
    go_wp2_with fail
    refine (example_any _).mono ?_
    rintro e w1 ⟨rfl, hE⟩
    go_wp2
    go_ret
    exact ⟨rfl, hE⟩
  · rw [decide_eq_true hf]
    have HEX := Lib.hid (fun W (k : Ext w W) => example_any W)
    have HN1 := Lib.hid (fun (W : World) (k : Ext w W) => New_any l A n c W hn (by omega) (h1.ext k))
    have HN2 := Lib.hid (fun (W : World) (k : Ext w W) => rNew_any l A n c W hn (by omega) (h1.ext k))
    have HA1 := Lib.hid (fun (W : World) (k : Ext w W) => Area_any l A n c W hn (by omega) (h1.ext k))
    have HA2 := Lib.hid (fun (W : World) (k : Ext w W) => rArea10_any l A n c W hn (by omega) (h1.ext k))
    have HB1 := Lib.hid (fun (W : World) (k : Ext w W) => Bounds_any l A n c W hn (by omega) (h1.ext k))
    have HB2 := Lib.hid (fun (W : World) (k : Ext w W) => rBounds10_any l A n c W hn (by omega) (h1.ext k))
    have HCC : ∃ t : Bool, (∀ (W : World), Ext w W → Calls Try.prog 25 #[.slice A n c] W fun e w' => e = .returned (.bool t) ∧ Ext W w') ∧ (∀ (W : World), Ext w W → Calls Try.prog 28 #[.slice A n c] W fun e w' => e = .returned (.bool t) ∧ Ext W w') := by
      by_cases hc : RegionOf (inL l) l
      · refine ⟨true, fun W k => (IsCanon_any l A n c W hn (by omega) (h1.ext k)).mono ?_, fun W k => (rIsCanon_any l A n c W hn (by omega) (h1.ext k)).mono ?_⟩
        · rintro e w' ⟨L, q1, q2, q3⟩
          have := q1.uniq hc fun _ _ => rfl
          exact ⟨by rw [q2, decide_eq_true ⟨by rw [this]; omega, this⟩], q3⟩
        · rintro e w' ⟨L, q1, q2, q3⟩
          have := q1.uniq hc fun _ _ => rfl
          exact ⟨by rw [q2, decide_eq_true this], q3⟩
      · refine ⟨false, fun W k => (IsCanon_any l A n c W hn (by omega) (h1.ext k)).mono ?_, fun W k => (rIsCanon_any l A n c W hn (by omega) (h1.ext k)).mono ?_⟩
        · rintro e w' ⟨L, q1, q2, q3⟩
          exact ⟨by rw [q2, decide_eq_false (fun ⟨_, e⟩ => hc (by rw [e] at q1; exact q1))], q3⟩
        · rintro e w' ⟨L, q1, q2, q3⟩
          exact ⟨by rw [q2, decide_eq_false (fun e => hc (by rw [e] at q1; exact q1))], q3⟩
    obtain ⟨t, HC1, HC2⟩ := HCC
    replace HC1 := Lib.hid HC1
    replace HC2 := Lib.hid HC2
    clear hn h1 hf
    generalize pixCount (inL l) = pa at *
    generalize boxL l = bx at *
    obtain ⟨b0, b1, b2, b3⟩ := bx
    unfold rectV at HB1 HB2
    dsimp only at HB1 HB2
    have dt : (t == t) = true := by simp
    have dq : (pa == pa) = true := by simp
    go_wp2_with fail
    refine (HN1.out _ (Ext.refl _)).mono ?_
    rintro e w1 ⟨v1, r1, L1, rfl, hE1, hr1⟩
    have HR1 := Lib.hid hr1
    clear hr1
    go_wp2_with fail
    refine (HN2.out _ hE1).mono ?_
    rintro e w2 ⟨v2, r2, L2, rfl, hE2, hr2⟩
    obtain ⟨rfl, B1, m, d1, B2, d2, rfl, rfl, hrows⟩ := rows_same HR1.out hr2
    have HROW := Lib.hid (fun W (k : Ext w2 W) => hrows W (hE2.trans k) k)
    have HE := Lib.hid (hE1.trans hE2)
    replace HEX := Lib.hid (fun W (k : Ext w2 W) => HEX.out W (HE.out.trans k))
    replace HA1 := Lib.hid (fun W (k : Ext w2 W) => HA1.out W (HE.out.trans k))
    replace HA2 := Lib.hid (fun W (k : Ext w2 W) => HA2.out W (HE.out.trans k))
    replace HB1 := Lib.hid (fun W (k : Ext w2 W) => HB1.out W (HE.out.trans k))
    replace HB2 := Lib.hid (fun W (k : Ext w2 W) => HB2.out W (HE.out.trans k))
    replace HC1 := Lib.hid (fun W (k : Ext w2 W) => HC1.out W (HE.out.trans k))
    replace HC2 := Lib.hid (fun W (k : Ext w2 W) => HC2.out W (HE.out.trans k))
    clear hr2 HR1 hrows hE1 hE2 HN1 HN2
    have hX := Ext.refl w2
    have dr : (r2 == r2) = true := by simp
    go_wp2_with (first
          | ((go_at_call 17; with_reducible refine (HROW.out _ hX).mono ?_); rintro e w9 ⟨rfl, k9⟩; replace hX := hX.trans k9; clear k9)
          | ((go_at_call 25; with_reducible refine (HC1.out _ hX).mono ?_); rintro e w9 ⟨rfl, k9⟩; replace hX := hX.trans k9; clear k9)
          | ((go_at_call 28; with_reducible refine (HC2.out _ hX).mono ?_); rintro e w9 ⟨rfl, k9⟩; replace hX := hX.trans k9; clear k9)
          | ((go_at_call 29; with_reducible refine (HA1.out _ hX).mono ?_); rintro e w9 ⟨rfl, k9⟩; replace hX := hX.trans k9; clear k9)
          | ((go_at_call 30; with_reducible refine (HA2.out _ hX).mono ?_); rintro e w9 ⟨rfl, k9⟩; replace hX := hX.trans k9; clear k9)
          | ((go_at_call 31; with_reducible refine (HB1.out _ hX).mono ?_); rintro e w9 ⟨rfl, k9⟩; replace hX := hX.trans k9; clear k9)
          | ((go_at_call 32; with_reducible refine (HB2.out _ hX).mono ?_); rintro e w9 ⟨rfl, k9⟩; replace hX := hX.trans k9; clear k9)
          | ((go_at_call 14; with_reducible refine (HEX.out _ hX).mono ?_); rintro e w9 ⟨rfl, k9⟩; replace hX := hX.trans k9; clear k9))
    go_ret
    exact ⟨ret_eq (by simp), HE.out.trans hX⟩
end Go.Proofs.Ytkjpcjmbhpfelaa
