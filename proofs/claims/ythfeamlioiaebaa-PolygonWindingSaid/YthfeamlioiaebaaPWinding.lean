/- PolygonWinding: the statement, proved: for every input the law returns true and the input reads as it did. -/
import Derived.Test.YthfeamlioiaebaaLWinding
set_option linter.unusedVariables false
set_option linter.unusedSimpArgs false
namespace Go.Proofs.Ythfeamlioiaebaa
open Go.ChangeShapes Go.WideShapes Go.ChangeAt Go.RowKit Go.Par Go.Deep Go.Joins

theorem wf_u8 {x : Int} (wx : (Lit.int .u8 x).wf = true) : ∃ k : Nat, x = k ∧ k ≤ 255 := by
  have k1 : IntKind.u8.min = 0 := rfl
  have k2 : IntKind.u8.max = 255 := rfl
  simp only [Lit.wf, Bool.and_eq_true, decide_eq_true_eq] at wx
  exact ⟨x.toNat, by omega, by omega⟩
theorem polygonWinding_int (L : List (List P2)) (A : Option Addr) (c : Nat) (one : List P2) (A1 : Option Addr) (c1 : Nat) (kb px py : Int) (w : World) (hc : L.length ≤ 17592186044416) (hL : RingsAt w A L) (hLc : L.length ≤ c)
    (hc1 : one.length ≤ c1) (hb1 : one.length ≤ 17592186044416) (hP : PtsAt w A1 one) (hk : (Lit.int .u8 kb).wf = true) :
    Calls Try.prog 5 #[.slice A L.length c, .slice A1 one.length c1, .int .u8 kb, .agg #[.int .i64 px, .int .i64 py]] w fun e w' => e = .returned (.bool true) ∧ Ext w w' := by
  obtain ⟨kn, rfl, hkn⟩ := wf_u8 hk
  exact polygonWinding_any L A c one A1 c1 kn px py w hc hL hLc hc1 hb1 hP hkn
set_option maxRecDepth 100000 in
theorem polygonWinding_lifted (os : Os) (started : os.Started) (H : Type) (enc : TypeId × Value → H) :
    ReturnsInHanded {} Try.checked os 5 .any (Rows.polygonWindingSpec.pre6 enc Try.prog Try.f5 Rows.polygonWindingRow.domain false) (Rows.polygonWindingSpec.post enc Try.prog Try.f5 false true false false) := by
  refine returnsInHanded_of_change_sized (C := Try.checked) Try.own started (by kernel_rfl) Try.func5
    (ChangeSpec.witness6 (enc := enc) (C := Try.checked) false ⟨#[], #[.slice none 0 0, .slice none 0 0, .int .u8 0, .agg #[.int .i64 0, .int .i64 0]], []⟩ 8 (by kernel_rfl) (by kernel_rfl) (by kernel_rfl) (by kernel_rfl)) ?_
  intro W base args ds gs before hval0 hW _ hsz0 _
  have hsz : (DataW.weightsEach Try.prog (Try.f5.params.toList ++ Rows.polygonWindingSpec.plain.varTypes Try.prog) (ds ++ gs)).all (· ≤ reachBytes) = true := hsz0
  clear hsz0
  have hval : ∀ (j : Nat) t v, Try.f5.params[j]? = some t → args[j]? = some v → Value.okWide Try.prog W .any base t v := hval0
  have hW' := hW
  obtain ⟨p, q, hA0, hV, he, hfz, hnd⟩ := hW
  have hA : DataW.TrodAll enc Try.prog W 0 (fun _ => true) true Try.f5.params.toList args.toList ds p := hA0
  rw [Try.params5] at hA hval hsz
  obtain ⟨rfl, rfl⟩ := trodVars_none hV
  obtain ⟨v0, v1, v2, v3, d0, d1, d2, d3, p0, p1, p2, p3, rfl, rfl, rfl, h0, h1, h2, h3⟩ := trodAll_four hA
  obtain ⟨a0, len0, cap0, rfl⟩ := okWide_slice Try.underlying22 (hval 0 22 v0 rfl rfl)
  obtain ⟨fu0, hf0⟩ := h0
  obtain ⟨L, A0, c0, hv0, hLc, hLb, hL⟩ := rings_of_trod hf0 (sized_arg hsz (j := 0) rfl rfl)
  simp only [Value.slice.injEq] at hv0
  obtain ⟨rfl, rfl, rfl⟩ := hv0
  obtain ⟨a1, len1, cap1, rfl⟩ := okWide_slice Try.underlying38 (hval 1 38 v1 rfl rfl)
  obtain ⟨fu1, hf1⟩ := h1
  obtain ⟨one, A1, c1, hv1, honec, honeb, hone⟩ := pts_of_trod hf1 (sized_arg hsz (j := 1) rfl rfl)
  simp only [Value.slice.injEq] at hv1
  obtain ⟨rfl, rfl, rfl⟩ := hv1
  obtain ⟨kb, rfl, rfl, rfl, wkb⟩ := open_int Try.underlying5 (hval 2 5 v2 rfl rfl) h2
  obtain ⟨px, py, rfl, bpx, bpy⟩ := open_point (hval 3 24 v3 rfl rfl) h3
  refine (polygonWinding_int L _ _ one _ _ kb px py W hLb hL hLc honec honeb hone wkb).mono fun e W' ⟨hee, hE⟩ => ?_
  subst hee
  exact ⟨_, rfl, law_post hW' rfl rfl rfl rfl rfl (by kernel_rfl) hE⟩
/-- PolygonWinding holds for every input. -/
theorem polygonWinding_holds : Rows.PolygonWindingSaid :=
  OpenClaim.holds_of_wide 5 Try.f5 rfl rfl rfl rfl rfl rfl rfl ⟨rfl, rfl, rfl, rfl, rfl⟩ rfl rfl rfl rfl rfl (by kernel_rfl) Try.func5 (by kernel_rfl)
    (of_decide_eq_true (by kernel_rfl)) (by unfold Func.isWrapper; rw [if_neg (of_decide_eq_false (by kernel_rfl))]; exact ⟨rfl, rfl⟩)
    (fun os started H enc _ => polygonWinding_lifted os started H enc)
end Go.Proofs.Ythfeamlioiaebaa
