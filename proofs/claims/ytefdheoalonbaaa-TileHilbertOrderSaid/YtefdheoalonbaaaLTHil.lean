/- TileHilbertOrder: the walk. -/
import Derived.Test.YtefdheoalonbaaaHilOR
set_option linter.unusedVariables false
set_option linter.unusedSimpArgs false
namespace Go.Proofs.Ytefdheoalonbaaa
open Go.RowKit Go.Par

set_option maxRecDepth 100000 in
set_option maxHeartbeats 1600000 in
theorem tileHilbertOrder_any (x0 y0 x1 y1 wd ht : Int) (w : World) :
    Calls Try.prog 10 #[.agg #[.int .i64 x0, .int .i64 y0, .int .i64 x1, .int .i64 y1], .int .i64 wd, .int .i64 ht] w fun e w' => e = .returned (.bool true) ∧ Ext w w' := by
  have HF := Lib.hid (fun W => few_any x0 y0 x1 y1 wd ht W)
  have H1 := Lib.hid (fun W => HilbertOrder_any x0 y0 x1 y1 wd ht W)
  have H2 := Lib.hid (fun W => rHilbertOrder_any x0 y0 x1 y1 wd ht W)
  have hlen := hilOrd_len (x0, y0, x1, y1) wd ht
  generalize hilOrd (x0, y0, x1, y1) wd ht = L at *
  generalize fewS (x0, y0, x1, y1) wd ht = f at *
  go_enter Try.func10, Try.ntmps10
  have b3 := Box.new w 23 #[.int .i64 x0, .int .i64 y0, .int .i64 x1, .int .i64 y1]
  go_wp2_with fail
  refine (HF.out _).mono ?_
  rintro e w1 ⟨rfl, hE⟩
  replace b3 := b3.ext hE
  replace hE := (Ext.alloc _ _).trans hE
  cases f
  · go_wp2_with fail
    refine (example_any _).mono ?_
    rintro e w2 ⟨rfl, hE2⟩
    go_wp2
    go_ret
    exact ⟨rfl, hE.trans hE2⟩
  · go_wp2_with fail
    apply wp_region_par' 12 (by kernel_rfl) (by kernel_rfl) rfl
    simp only [List.take_succ_cons, List.take_zero, List.drop_succ_cons, List.drop_zero]
    generalize hW : World.drew _ = W
    replace hE : Ext w W := by rw [← hW]; exact hE.trans (Ext.drew _)
    replace b3 : Box W w.heap.size 23 #[.int .i64 x0, .int .i64 y0, .int .i64 x1, .int .i64 y1] := by rw [← hW]; exact b3.drew
    clear hW
    have k3 := b3.lcell
    iterate 3
      refine parW_step rfl (fun K hK => ?_)
      apply Exists.intro
      refine ⟨fun z => ?_, ?_⟩
      focus
        go_simp
        first
          | rfl
          | fail
      go_simp
      refine hK _ ?_
      clear hK K
    refine parW_rel rfl (IR.stable L) (fun x => ?_) ?_
    · have hc := (H1.out x.val).mono (R' := fun e w' => ∃ v, e = .returned v ∧ Ext x.val w' ∧ IR L v w') fun e w' ⟨v, h1, h2, h3⟩ => ⟨v, h1, h2, IR.of h3 (by omega)⟩
      simp only [Giv]
      go_simp
      exact calls_rel hc
    iterate 3
      refine parW_step rfl (fun K hK => ?_)
      apply Exists.intro
      refine ⟨fun z => ?_, ?_⟩
      focus
        go_simp
        first
          | rfl
          | fail
      go_simp
      refine hK _ ?_
      clear hK K
    refine parW_rel rfl (IR.stable L) (fun x => ?_) ?_
    · intro v0 hv0
      have hc := (H2.out x.val).mono (R' := fun e w' => ∃ v, e = .returned v ∧ Ext x.val w' ∧ IR L v w') fun e w' ⟨v, h1, h2, h3⟩ => ⟨v, h1, h2, IR.of h3 (by omega)⟩
      simp only [Giv]
      go_simp
      exact calls_rel hc
    refine parW_giv (c := .bool true) (fun x => ?_) ?_
    · intro v1 hv1 v2 hv2
      have g1 := hv1 (show Nat.testBit _ _ = true from by kernel_rfl)
      have g2 := hv2 (show Nat.testBit _ _ = true from by kernel_rfl)
      obtain ⟨A1, n1, c1, A2, n2, c2, rfl, rfl, hc⟩ := IR.ints g1 g2 (by omega) (by omega)
      rw [decide_eq_true rfl] at hc
      simp only [Giv]
      go_simp
      exact calls_val hc
    iterate 3
      refine parW_step rfl (fun K hK => ?_)
      apply Exists.intro
      refine ⟨fun z => ?_, ?_⟩
      focus
        go_simp
        first
          | rfl
          | with_reducible exact calls_val (example_any _)
      go_simp
      refine hK _ ?_
      clear hK K
    refine parW_fin (fun z => ?_)
    rintro v1 hv1 v2 hv2 hp
    simp only [Act.put, List.setIfInBounds_toArray, List.set_cons_succ, List.set_cons_zero]
    go_wp2
    go_ret
    exact ⟨rfl, hE.later z⟩
end Go.Proofs.Ytefdheoalonbaaa
