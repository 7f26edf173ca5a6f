/- The reference's distance and its step around a hull. -/
import Derived.Test.YthfeamlioiaebaaHullLaw2
import Derived.Test.YthfeamlioiaebaaFlat
set_option linter.unusedVariables false
set_option linter.unusedSimpArgs false
namespace Go.Proofs.Ythfeamlioiaebaa
open Go.RowKit Go.Par

theorem valid_bd {p : P2} (h : validS p = true) : -1048576 ≤ p.1 ∧ p.1 ≤ 1048576 ∧ -1048576 ≤ p.2 ∧ p.2 ≤ 1048576 := by
  simp only [validS, inB, Bool.and_eq_true, decide_eq_true_eq] at h
  omega
set_option maxHeartbeats 800000 in
theorem far_any (a1 a2 b1 b2 : Int) (w : World) (ha : validS (a1, a2) = true) (hb : validS (b1, b2) = true) :
    Calls Try.prog 96 #[.agg #[.int .i64 a1, .int .i64 a2], .agg #[.int .i64 b1, .int .i64 b2]] w fun e w' => e = .returned (.int .i64 (farS (a1, a2) (b1, b2))) ∧ Ext w w' := by
  have h1 := valid_bd ha
  have h2 := valid_bd hb
  simp only at h1 h2
  have k1 : IntKind.i64.wrap (b1 - a1) = b1 - a1 := IntWalk.i64_in _ (by omega)
  have k2 : IntKind.i64.wrap (b2 - a2) = b2 - a2 := IntWalk.i64_in _ (by omega)
  have m1 := mul_bd (x := b1 - a1) (y := b1 - a1) (a := 2097152) (b := 2097152) (by decide) (by decide) (by omega) (by omega) (by omega) (by omega)
  have m2 := mul_bd (x := b2 - a2) (y := b2 - a2) (a := 2097152) (b := 2097152) (by decide) (by decide) (by omega) (by omega) (by omega) (by omega)
  have k3 : IntKind.i64.wrap ((b1 - a1) * (b1 - a1)) = (b1 - a1) * (b1 - a1) := IntWalk.i64_in _ (by omega)
  have k4 : IntKind.i64.wrap ((b2 - a2) * (b2 - a2)) = (b2 - a2) * (b2 - a2) := IntWalk.i64_in _ (by omega)
  have k5 : IntKind.i64.wrap ((b1 - a1) * (b1 - a1) + (b2 - a2) * (b2 - a2)) = (b1 - a1) * (b1 - a1) + (b2 - a2) * (b2 - a2) := IntWalk.i64_in _ (by omega)
  clear h1 h2 m1 m2 ha hb
  go_enter Try.func96, Try.ntmps96
  go_wp2
  go_ret
  exact ⟨rfl, (Ext.alloc _ _).trans (Ext.alloc _ _)⟩
end Go.Proofs.Ythfeamlioiaebaa
