/- RegionComponents: the walk. -/
import Derived.Test.YtkjpcjmbhpfelaaRgCompW
import Derived.Test.YtkjpcjmbhpfelaaRgTch
import Derived.Test.YtkjpcjmbhpfelaaRgLBas
set_option linter.unusedVariables false
set_option linter.unusedSimpArgs false
namespace Go.Proofs.Ytkjpcjmbhpfelaa
open Go.RowKit Go.Par Go.Reg

/-- two results of Components: the same rows, the same error -/
theorem comps_same {l : List R4} {v v' : Value} {er er' : Int} {w w' : World} (h : CompRes l v er w) (k : CompRes l v' er' w') :
    er' = er ∧ ∃ A n c A' n' c', v = .slice A n c ∧ v' = .slice A' n' c' ∧ ∀ W, Ext w W → Ext w' W → Calls Try.prog 39 #[v, v'] W fun e w'' => e = .returned (.bool true) ∧ Ext W w'' := by
  obtain ⟨L, h1, h2⟩ := h
  obtain ⟨L', k1, k2⟩ := k
  have e : L = L' := h1.uniq k1 fun _ _ => rfl
  subst e
  rcases h2 with ⟨a1, rfl, A, c, ss, ms, C, rfl, a2, a3, a4, a5, a6⟩ | ⟨a1, rfl, rfl⟩
  · rcases k2 with ⟨b1, rfl, A', c', ss', ms', C', rfl, b2, b3, b4, b5, b6⟩ | ⟨b1, _, _⟩
    · have e1 := a5.uniq b5 (Nat.le_refl _) (Nat.le_refl _)
      subst e1
      have e2 := a6.uniq b6
      subst e2
      refine ⟨rfl, A, _, c, A', _, c', rfl, rfl, fun W k1 k2 => ?_⟩
      have := Lists_any C C ss ss' A A' _ c _ c' W rfl rfl (by omega) (by omega) (a3.ext k1) (b3.ext k2) (a4.ext k1) (b4.ext k2)
      rw [decide_eq_true rfl] at this
      exact this
    · omega
  · rcases k2 with ⟨b1, _⟩ | ⟨b1, rfl, rfl⟩
    · omega
    · refine ⟨rfl, none, 0, 0, none, 0, 0, rfl, rfl, fun W _ _ => ?_⟩
      have := Lists_any [] [] [] [] none none 0 0 0 0 W rfl rfl (by omega) (by omega) (EL.At.nil _ _) (EL.At.nil _ _) (RowsOf.nil _) (RowsOf.nil _)
      rw [decide_eq_true rfl] at this
      exact this
set_option maxRecDepth 100000 in
set_option maxHeartbeats 6400000 in
theorem regionComponents_any (l : List R4) (A : Option Addr) (n c : Nat) (w : World) (hn : l.length = n) (h1 : rectE.At w A l) :
    Calls Try.prog 10 #[.slice A n c] w fun e w' => e = .returned (.bool true) ∧ Ext w w' := by
  go_enter Try.func10, Try.ntmps10
  go_wp2_with fail
  refine (few_any _ _ _ _ _ _ _).mono ?_
  rintro e w0 ⟨rfl, rfl⟩
  by_cases hf : n ≤ 24 ∧ 0 ≤ 24
  rotate_left
  · rw [decide_eq_false hf]
    clear hf hn h1
    go_wp2_with fail
    refine (example_any _).mono ?_
    rintro e w1 ⟨rfl, hE⟩
    go_wp2
    go_ret
    exact ⟨rfl, hE⟩
  · rw [decide_eq_true hf]
    have HEX := Lib.hid (fun W (k : Ext w W) => example_any W)
    have HN1 := Lib.hid (fun (W : World) (k : Ext w W) => components_any l A n c W hn (by omega) (h1.ext k))
    have HN2 := Lib.hid (fun (W : World) (k : Ext w W) => rComponents_any l A n c W hn (by omega) (h1.ext k))
    clear hn h1 hf
    go_wp2_with fail
    refine (HN1.out _ (Ext.refl _)).mono ?_
    rintro e w1 ⟨v1, r1, rfl, hE1, hr1⟩
    have HR1 := Lib.hid hr1
    clear hr1
    go_wp2_with fail
    refine (HN2.out _ hE1).mono ?_
    rintro e w2 ⟨v2, r2, rfl, hE2, hr2⟩
    obtain ⟨rfl, B1, m, d1, B2, m2, d2, rfl, rfl, hrows⟩ := comps_same HR1.out hr2
    have HROW := Lib.hid (fun W (k : Ext w2 W) => hrows W (hE2.trans k) k)
    have HE := Lib.hid (hE1.trans hE2)
    replace HEX := Lib.hid (fun W (k : Ext w2 W) => HEX.out W (HE.out.trans k))
    clear hr2 HR1 hrows hE1 hE2 HN1 HN2
    have hX := Ext.refl w2
    have dr : (r2 == r2) = true := by simp
    go_wp2_with (first
          | ((go_at_call 39; with_reducible refine (HROW.out _ hX).mono ?_); rintro e w9 ⟨rfl, k9⟩; replace hX := hX.trans k9; clear k9)
          | ((go_at_call 14; with_reducible refine (HEX.out _ hX).mono ?_); rintro e w9 ⟨rfl, k9⟩; replace hX := hX.trans k9; clear k9))
    go_ret
    exact ⟨ret_eq (by simp), HE.out.trans hX⟩
end Go.Proofs.Ytkjpcjmbhpfelaa
