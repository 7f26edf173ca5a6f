/- PolygonHullContains: the statement, proved: for every input the law returns true and the input reads as it did. -/
import Derived.Test.YthfeamlioiaebaaLHullContains
set_option linter.unusedVariables false
set_option linter.unusedSimpArgs false
namespace Go.Proofs.Ythfeamlioiaebaa
open Go.ChangeShapes Go.WideShapes Go.ChangeAt Go.RowKit Go.Par Go.Deep Go.Joins

theorem wf_byte {x : Int} (wx : (Lit.int .u8 x).wf = true) : ∃ k : Nat, x = k ∧ k ≤ 255 := by
  have k1 : IntKind.u8.min = 0 := rfl
  have k2 : IntKind.u8.max = 255 := rfl
  simp only [Lit.wf, Bool.and_eq_true, decide_eq_true_eq] at wx
  exact ⟨x.toNat, by omega, by omega⟩
theorem polygonHullContains_int (one : List P2) (A1 : Option Addr) (c1 : Nat) (kb : Int) (w : World) (hc1 : one.length ≤ c1) (hb1 : one.length ≤ 17592186044416) (hP : PtsAt w A1 one) (hk : (Lit.int .u8 kb).wf = true) :
    Calls Try.prog 13 #[.slice A1 one.length c1, .int .u8 kb] w fun e w' => e = .returned (.bool true) ∧ Ext w w' := by
  obtain ⟨kn, rfl, hkn⟩ := wf_byte hk
  exact polygonHullContains_any one A1 c1 kn w hc1 hb1 hP hkn
set_option maxRecDepth 100000 in
theorem polygonHullContains_lifted (os : Os) (started : os.Started) (H : Type) (enc : TypeId × Value → H) :
    ReturnsInHanded {} Try.checked os 13 .any (Rows.polygonHullContainsSpec.pre6 enc Try.prog Try.f13 Rows.polygonHullContainsRow.domain false) (Rows.polygonHullContainsSpec.post enc Try.prog Try.f13 false true false false) := by
  refine returnsInHanded_of_change_sized (C := Try.checked) Try.own started (by kernel_rfl) Try.func13
    (ChangeSpec.witness6 (enc := enc) (C := Try.checked) false ⟨#[], #[.slice none 0 0, .int .u8 0], []⟩ 8 (by kernel_rfl) (by kernel_rfl) (by kernel_rfl) (by kernel_rfl)) ?_
  intro W base args ds gs before hval0 hW _ hsz0 _
  have hsz : (DataW.weightsEach Try.prog (Try.f13.params.toList ++ Rows.polygonHullContainsSpec.plain.varTypes Try.prog) (ds ++ gs)).all (· ≤ reachBytes) = true := hsz0
  clear hsz0
  have hval : ∀ (j : Nat) t v, Try.f13.params[j]? = some t → args[j]? = some v → Value.okWide Try.prog W .any base t v := hval0
  have hW' := hW
  obtain ⟨p, q, hA0, hV, he, hfz, hnd⟩ := hW
  have hA : DataW.TrodAll enc Try.prog W 0 (fun _ => true) true Try.f13.params.toList args.toList ds p := hA0
  rw [Try.params13] at hA hval hsz
  obtain ⟨rfl, rfl⟩ := trodVars_none hV
  obtain ⟨v0, v1, d0, d1, p0, p1, rfl, rfl, rfl, h0, h1⟩ := trodAll_two hA
  obtain ⟨a0, len0, cap0, rfl⟩ := okWide_slice Try.underlying38 (hval 0 38 v0 rfl rfl)
  obtain ⟨fu0, hf0⟩ := h0
  obtain ⟨one, A0, c0, hv0, honec, honeb, hone⟩ := pts_of_trod hf0 (sized_arg hsz (j := 0) rfl rfl)
  simp only [Value.slice.injEq] at hv0
  obtain ⟨rfl, rfl, rfl⟩ := hv0
  obtain ⟨kb, rfl, rfl, rfl, wkb⟩ := open_int Try.underlying5 (hval 1 5 v1 rfl rfl) h1
  refine (polygonHullContains_int one _ _ kb W honec honeb hone wkb).mono fun e W' ⟨hee, hE⟩ => ?_
  subst hee
  exact ⟨_, rfl, law_post hW' rfl rfl rfl rfl rfl (by kernel_rfl) hE⟩
/-- PolygonHullContains holds for every input. -/
theorem polygonHullContains_holds : Rows.PolygonHullContainsSaid :=
  OpenClaim.holds_of_wide 13 Try.f13 rfl rfl rfl rfl rfl rfl rfl ⟨rfl, rfl, rfl, rfl, rfl⟩ rfl rfl rfl rfl rfl (by kernel_rfl) Try.func13 (by kernel_rfl)
    (of_decide_eq_true (by kernel_rfl)) (by unfold Func.isWrapper; rw [if_neg (of_decide_eq_false (by kernel_rfl))]; exact ⟨rfl, rfl⟩)
    (fun os started H enc _ => polygonHullContains_lifted os started H enc)
end Go.Proofs.Ythfeamlioiaebaa
