/- The closure by which ZOrder sorts. -/
import Derived.Test.YtefdheoalonbaaaMort
import Derived.Test.YtefdheoalonbaaaParD
set_option linter.unusedVariables false
set_option linter.unusedSimpArgs false
namespace Go.Proofs.Ytefdheoalonbaaa
open Go.RowKit Go.ParD
open Go.Par (Box ret_eq)

set_option maxHeartbeats 800000 in
theorem zcmp_d (x y C bC : Nat) (w : World) (hx : x < 256) (hy : y < 256) (hC : 1 ≤ C) (hC2 : C ≤ 256) (hc : w.cell? ⟨bC, 0, none⟩ = some (.int .i64 C)) :
    Calls Try.prog 59 #[.int .i64 x, .int .i64 y, .pointer (some ⟨bC, 0, none⟩)] w fun e w' => e = .returned (.int .i64 (cmpS (moT (x % C) (x / C)) (moT (y % C) (y / C)))) ∧ Ext w w' := by
  have m1 : x % C < 256 := by have := Nat.mod_lt x hC; omega
  have m2 : y % C < 256 := by have := Nat.mod_lt y hC; omega
  have m3 : x / C < 256 := Nat.lt_of_le_of_lt (Nat.div_le_self _ _) hx
  have m4 : y / C < 256 := Nat.lt_of_le_of_lt (Nat.div_le_self _ _) hy
  have HX := Lib.hid (fun W => morton_any (x % C) (x / C) W m1 m3)
  have HY := Lib.hid (fun W => morton_any (y % C) (y / C) W m2 m4)
  have a1 : ((x : Int).tmod (C : Int)) = ((x % C : Nat) : Int) := rfl
  have a2 : ((y : Int).tmod (C : Int)) = ((y % C : Nat) : Int) := rfl
  have a3 : ((x : Int).tdiv (C : Int)) = ((x / C : Nat) : Int) := rfl
  have a4 : ((y : Int).tdiv (C : Int)) = ((y / C : Nat) : Int) := rfl
  have c1 : ((x : Int) % (C : Int)) = ((x % C : Nat) : Int) := rfl
  have c2 : ((y : Int) % (C : Int)) = ((y % C : Nat) : Int) := rfl
  have c3 : ((x : Int) / (C : Int)) = ((x / C : Nat) : Int) := rfl
  have c4 : ((y : Int) / (C : Int)) = ((y / C : Nat) : Int) := rfl
  generalize x % C = p at *
  generalize x / C = q at *
  generalize y % C = r at *
  generalize y / C = s at *
  have b1 : IntKind.i64.wrap (q : Int) = (q : Int) := IntWalk.i64_in _ (by omega)
  have b2 : IntKind.i64.wrap (s : Int) = (s : Int) := IntWalk.i64_in _ (by omega)
  have d0 : ¬ C = 0 := by omega
  go_enter Try.func59, Try.ntmps59
  go_wp2_with fail
  apply wp_region_par' 15 (by kernel_rfl) (by kernel_rfl) rfl
  simp only [List.take_succ_cons, List.take_zero, List.drop_succ_cons, List.drop_zero]
  generalize hW : World.drew _ = W
  have hE : Ext w W := by rw [← hW]; exact Ext.drew _
  clear hW
  have k2 := fun z : Later W => z.cell (hE.cell hc)
  iterate 15
    refine parW_step rfl (fun K hK => ?_)
    apply Exists.intro
    refine ⟨fun z => ?_, ?_⟩
    focus
      go_simp
      first
        | rfl
        | with_reducible exact calls_same (HX.out _)
        | with_reducible exact calls_same (HY.out _)
        | with_reducible exact calls_same (Compare_any _ _ _)
    go_simp
    refine hK _ ?_
    clear hK K
  refine parW_end (fun z => ?_)
  go_wp2
  go_ret
  exact ⟨rfl, hE.later z⟩
end Go.Proofs.Ytefdheoalonbaaa
