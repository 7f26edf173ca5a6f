/- RegionTilesTouched: the statement, proved: for every input the law returns true and the input reads as it did. -/
import Derived.Test.YtkjpcjmbhpfelaaRgLTou
import Derived.Test.YtkjpcjmbhpfelaaRgOpen
set_option linter.unusedVariables false
set_option linter.unusedSimpArgs false
namespace Go.Proofs.Ytkjpcjmbhpfelaa
open Go.ChangeShapes Go.WideShapes Go.ChangeAt Go.RowKit Go.Par Go.Reg Go.Deep Go.Joins

set_option maxRecDepth 100000 in
theorem regionTilesTouched_lifted (os : Os) (started : os.Started) (H : Type) (enc : TypeId × Value → H) :
    ReturnsInHanded {} Try.checked os 9 .any (Rows.regionTilesTouchedSpec.pre6 enc Try.prog Try.f9 Rows.regionTilesTouchedRow.domain false) (Rows.regionTilesTouchedSpec.post enc Try.prog Try.f9 false true false false) := by
  refine returnsInHanded_of_change_sized (C := Try.checked) Try.own started (by kernel_rfl) Try.func9
    (ChangeSpec.witness6 (enc := enc) (C := Try.checked) false ⟨#[], #[.slice none 0 0, .agg #[.int .i64 0, .int .i64 0, .int .i64 0, .int .i64 0], .int .i64 0, .int .i64 0], []⟩ 8 (by kernel_rfl) (by kernel_rfl) (by kernel_rfl) (by kernel_rfl)) ?_
  intro W base args ds gs before hval0 hW _ hsz0 _
  have hsz : (DataW.weightsEach Try.prog (Try.f9.params.toList ++ Rows.regionTilesTouchedSpec.plain.varTypes Try.prog) (ds ++ gs)).all (· ≤ reachBytes) = true := hsz0
  clear hsz0
  have hval : ∀ (j : Nat) t v, Try.f9.params[j]? = some t → args[j]? = some v → Value.okWide Try.prog W .any base t v := hval0
  have hW' := hW
  obtain ⟨p, q, hA0, hV, he, hfz, hnd⟩ := hW
  have hA : DataW.TrodAll enc Try.prog W 0 (fun _ => true) true Try.f9.params.toList args.toList ds p := hA0
  rw [Try.params9] at hA hval hsz
  obtain ⟨rfl, rfl⟩ := trodVars_none hV
  obtain ⟨v0, v1, v2, v3, d0, d1, d2, d3, p0, p1, p2, p3, rfl, rfl, rfl, h0, h1, h2, h3⟩ := trodAll_four hA
  obtain ⟨a0, len0, cap0, rfl⟩ := okWide_slice Try.underlying22 (hval 0 22 v0 rfl rfl)
  obtain ⟨fu0, hf0⟩ := h0
  obtain ⟨A0, n0, c0, l, hv0, hnl, hcl, hml, hatl⟩ := rects_of_trod hf0
  simp only [Value.slice.injEq] at hv0
  obtain ⟨rfl, rfl, rfl⟩ := hv0
  obtain ⟨x0, y0, x1, y1, rfl, bx0, by0, bx1, by1⟩ := open_rect (hval 1 29 v1 rfl rfl) h1
  obtain ⟨wd, rfl, rfl, rfl, wwd⟩ := open_int Try.underlying3 (hval 2 3 v2 rfl rfl) h2
  obtain ⟨ht, rfl, rfl, rfl, wht⟩ := open_int Try.underlying3 (hval 3 3 v3 rfl rfl) h3
  refine (regionTilesTouched_any l _ _ _ x0 y0 x1 y1 wd ht W hnl hatl).mono fun e W' ⟨hee, hE⟩ => ?_
  subst hee
  exact ⟨_, rfl, law_post hW' rfl rfl rfl rfl rfl (by kernel_rfl) hE⟩
/-- RegionTilesTouched holds for every input. -/
theorem regionTilesTouched_holds : Rows.RegionTilesTouchedSaid :=
  OpenClaim.holds_of_wide 9 Try.f9 rfl rfl rfl rfl rfl rfl rfl ⟨rfl, rfl, rfl, rfl, rfl⟩ rfl rfl rfl rfl rfl (by kernel_rfl) Try.func9 (by kernel_rfl)
    (of_decide_eq_true (by kernel_rfl)) (by unfold Func.isWrapper; rw [if_neg (of_decide_eq_false (by kernel_rfl))]; exact ⟨rfl, rfl⟩)
    (fun os started H enc _ => regionTilesTouched_lifted os started H enc)
end Go.Proofs.Ytkjpcjmbhpfelaa
