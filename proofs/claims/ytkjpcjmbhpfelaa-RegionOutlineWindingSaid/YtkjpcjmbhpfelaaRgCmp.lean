/- Outlines of the program: the closure by which rings are sorted. -/
import Derived.Test.YtkjpcjmbhpfelaaRgRing2
import Derived.Test.YtkjpcjmbhpfelaaParD
set_option linter.unusedVariables false
set_option linter.unusedSimpArgs false
namespace Go.Proofs.Ytkjpcjmbhpfelaa
open Go.RowKit Go.ParD
open Go.Par (Box ret_eq)

set_option maxRecDepth 100000 in
set_option maxHeartbeats 800000 in
theorem cmpRing_d (p q r s : Int) (b1 o1 n1 c1 b2 o2 n2 c2 : Nat) (w : World) (hb : (-4294967296 ≤ p ∧ p ≤ 4294967296) ∧ (-4294967296 ≤ q ∧ q ≤ 4294967296) ∧ (-4294967296 ≤ r ∧ r ≤ 4294967296) ∧ (-4294967296 ≤ s ∧ s ≤ 4294967296))
    (h1 : 0 < n1) (h2 : 0 < n2) (k0 : w.cell? ⟨b1, o1, none⟩ = some (.int .i64 p)) (k1 : w.cell? ⟨b1, o1 + 1, none⟩ = some (.int .i64 q)) (k2 : w.cell? ⟨b2, o2, none⟩ = some (.int .i64 r)) (k3 : w.cell? ⟨b2, o2 + 1, none⟩ = some (.int .i64 s)) :
    Calls Try.prog 72 #[.slice (some ⟨b1, o1, none⟩) n1 c1, .slice (some ⟨b2, o2, none⟩) n2 c2] w fun e w' => e = .returned (.int .i64 (befS (p, q) (r, s))) ∧ Ext w w' := by
  have HB := Lib.hid (fun W => (before_any p q r s W hb).mono (R' := fun e w' => e = .returned (.int .i64 (befS (p, q) (r, s))) ∧ Ext W w') fun e w' h => ⟨h.1, h.2.1, h.2.2⟩)
  clear hb
  generalize befS (p, q) (r, s) = v at *
  go_enter Try.func72, Try.ntmps72
  go_wp2_with fail
  apply wp_region_par' 7 (by kernel_rfl) (by kernel_rfl) rfl
  simp only [List.take_succ_cons, List.take_zero, List.drop_succ_cons, List.drop_zero]
  generalize hW : World.drew _ = W
  have hE : Ext w W := by rw [← hW]; exact Ext.drew _
  clear hW
  have z0 := fun z : Later W => z.cell (hE.cell k0)
  have z1 := fun z : Later W => z.cell (hE.cell k1)
  have z2 := fun z : Later W => z.cell (hE.cell k2)
  have z3 := fun z : Later W => z.cell (hE.cell k3)
  iterate 7
    refine parW_step rfl (fun K hK => ?_)
    apply Exists.intro
    refine ⟨fun z => ?_, ?_⟩
    focus
      go_simp
      first
        | rfl
        | with_reducible exact calls_val (HB.out _)
    go_simp
    refine hK _ ?_
    clear hK K
  refine parW_end (fun z => ?_)
  go_wp2
  go_ret
  exact ⟨rfl, hE.later z⟩
end Go.Proofs.Ytkjpcjmbhpfelaa
