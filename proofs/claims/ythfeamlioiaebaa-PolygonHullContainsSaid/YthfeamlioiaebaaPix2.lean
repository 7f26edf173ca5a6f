/- PixelBounds in the reference and in the program. -/
import Derived.Test.YthfeamlioiaebaaPix
set_option linter.unusedVariables false
set_option linter.unusedSimpArgs false
namespace Go.Proofs.Ythfeamlioiaebaa
open Go.RowKit Go.Par

set_option maxRecDepth 100000 in
set_option maxHeartbeats 1600000 in
theorem rPix_any (L : List (List P2)) (A : Option Addr) (c : Nat) (w : World) (hc : L.length ≤ 17592186044416) (hL : RingsAt w A L) :
    Calls Try.prog 19 #[.slice A L.length c] w fun e w' => e = .returned (rectV (pixS L)) ∧ Ext w w' := by
  have HB := Lib.hid (rBounds_any L A c (w.alloc (.cells #[.int .i64 0, .int .i64 0, .int .i64 0, .int .i64 0] 30)) hc (hL.ext (Ext.alloc _ _)))
  have hI := boundsS_inP L
  generalize L.length = n at *
  obtain ⟨v, hv⟩ : ∃ v, v = boundsS L := ⟨_, rfl⟩
  rw [← hv] at HB hI
  have HP := Lib.hid (show pixS L = if v.2.2 then rectCanonS (v.1.1 / 256, v.1.2 / 256, (v.2.1.1 + 255) / 256, (v.2.1.2 + 255) / 256) else (0, 0, 0, 0) from by rw [hv]; rfl)
  obtain ⟨⟨a, b⟩, ⟨p, q⟩, ok⟩ := v
  unfold inP at hI
  simp only at hI
  obtain ⟨⟨i1, i2, i3, i4⟩, i5, i6, i7, i8⟩ := hI
  unfold bndV at HB
  clear hL hv
  go_enter Try.func19, Try.ntmps19
  go_wp2_with fail
  refine HB.out.mono ?_
  rintro e w1 ⟨rfl, hE⟩
  have B := (Box.new _ _ _).ext hE
  have hE' := (Ext.alloc _ _).trans hE
  have s2 := B.lt
  clear hE
  cases ok
  · have E := Lib.hid (show pixS L = (0, 0, 0, 0) from HP.out)
    have k := B.cell; have f := B.frozen
    have n1 : ¬ w.heap.size = w1.heap.size := by omega
    have n2 : ¬ w.heap.size = w1.heap.size + 1 := by omega
    clear i1 i2 i3 i4 i5 i6 i7 i8 HP HB
    go_wp2
    exact bodyPost_ret (v := rectV (0, 0, 0, 0)) (by simp [results, Try.results19, go_sem, rectV, k, f]) rfl ⟨by rw [E.out], ((hE'.set4 (Nat.le_refl _) _ _ _ _).trans (Ext.alloc _ _)).trans (Ext.alloc _ _)⟩
  · have u1 : ∀ w, Calls Try.prog 53 #[.int .i64 a] w fun e w' => e = .returned (.int .i64 (a / 256)) ∧ w = w' := fun w => down_any a w (by omega) (by omega)
    have u2 : ∀ w, Calls Try.prog 53 #[.int .i64 b] w fun e w' => e = .returned (.int .i64 (b / 256)) ∧ w = w' := fun w => down_any b w (by omega) (by omega)
    have u3 : ∀ w, Calls Try.prog 53 #[.int .i64 (-p)] w fun e w' => e = .returned (.int .i64 (-p / 256)) ∧ w = w' := fun w => down_any (-p) w (by omega) (by omega)
    have u4 : ∀ w, Calls Try.prog 53 #[.int .i64 (-q)] w fun e w' => e = .returned (.int .i64 (-q / 256)) ∧ w = w' := fun w => down_any (-q) w (by omega) (by omega)
    have E := Lib.hid (show pixS L = rectCanonS (a / 256, b / 256, - (-p / 256), - (-q / 256)) from by rw [HP.out, show (p + 255) / 256 = - (-p / 256) by omega, show (q + 255) / 256 = - (-q / 256) by omega]; rfl)
    have w3 : IntKind.i64.wrap (-p) = -p := IntWalk.i64_in _ (by omega)
    have w4 : IntKind.i64.wrap (-q) = -q := IntWalk.i64_in _ (by omega)
    have w5 : IntKind.i64.wrap (- (-p / 256)) = - (-p / 256) := IntWalk.i64_in _ (by omega)
    have w6 : IntKind.i64.wrap (- (-q / 256)) = - (-q / 256) := IntWalk.i64_in _ (by omega)
    have U1 := Lib.hid u1; have U2 := Lib.hid u2; have U3 := Lib.hid u3; have U4 := Lib.hid u4
    clear u1 u2 u3 u4 i1 i2 i3 i4 i5 i6 i7 i8
    go_wp2_with fail
    apply wp_region_par' 18 (by kernel_rfl) (by kernel_rfl) rfl
    simp only [List.take_succ_cons, List.take_zero, List.drop_succ_cons, List.drop_zero]
    generalize hW : World.drew _ = W
    have hEW : Ext w W := by rw [← hW]; exact ((hE'.trans (Ext.alloc _ _)).trans (Ext.alloc _ _)).trans (Ext.drew _)
    have B2 : Box W w.heap.size 30 #[.int .i64 0, .int .i64 0, .int .i64 0, .int .i64 0] := by rw [← hW]; exact ((B.alloc _).alloc _).drew
    have B3 : Box W w1.heap.size 24 #[.int .i64 a, .int .i64 b] := by rw [← hW]; exact ((Box.new _ _ _).alloc _).drew
    have B4 : Box W (w1.heap.size + 1) 24 #[.int .i64 p, .int .i64 q] := by rw [← hW]; exact (Box.at1).drew
    clear hW
    have k3 := B3.lcell; have k4 := B4.lcell
    have HC := Lib.hid (rectCanon_any (a / 256) (b / 256) (- (-p / 256)) (- (-q / 256)))
    generalize rectCanonS (a / 256, b / 256, - (-p / 256), - (-q / 256)) = rr at *
    obtain ⟨r1, r2, r3, r4⟩ := rr
    unfold rectV at HC
    iterate 18
      refine parW_step rfl (fun K hK => ?_)
      apply Exists.intro
      refine ⟨fun z => ?_, ?_⟩
      focus
        go_simp
        first
          | rfl
          | with_reducible exact calls_same (U1.out _)
          | with_reducible exact calls_same (U2.out _)
          | with_reducible exact calls_same (U3.out _)
          | with_reducible exact calls_same (U4.out _)
          | with_reducible exact calls_val (HC.out _)
      go_simp
      refine hK _ ?_
      clear hK K
    refine parW_end (fun z => ?_)
    have k2 := (B2.later z).cell; have f2 := (B2.later z).frozen
    have hz := hEW.later z
    clear k3 k4 w3 w4 w5 w6
    go_wp2
    exact bodyPost_ret (v := rectV (r1, r2, r3, r4)) (by simp [results, Try.results19, go_sem, rectV, k2, f2]) rfl ⟨by rw [E.out], hz.set4 (Nat.le_refl _) _ _ _ _⟩
end Go.Proofs.Ythfeamlioiaebaa
