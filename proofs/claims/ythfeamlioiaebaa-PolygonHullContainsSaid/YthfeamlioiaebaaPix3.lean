/- polygon.PixelBounds. -/
import Derived.Test.YthfeamlioiaebaaPix2
set_option linter.unusedVariables false
set_option linter.unusedSimpArgs false
namespace Go.Proofs.Ythfeamlioiaebaa
open Go.RowKit Go.Par

theorem rectCanon_in {a b c d : Int} (h : inR a = true ∧ inR b = true ∧ inR c = true ∧ inR d = true) : rectCanonS (a, b, c, d) = if c ≤ a ∨ d ≤ b then (0, 0, 0, 0) else (a, b, c, d) := by
  obtain ⟨h1, h2, h3, h4⟩ := h
  unfold rectCanonS rectEmptyS rectValidS
  simp [h1, h2, h3, h4]
theorem inR_div {n : Int} (h1 : -1048576 ≤ n) (h2 : n ≤ 1048576) : inR (n / 256) = true ∧ inR ((n + 255) / 256) = true := by
  unfold inR
  simp only [Bool.and_eq_true, decide_eq_true_eq]
  omega
set_option maxRecDepth 100000 in
set_option maxHeartbeats 1600000 in
theorem Pix_any (L : List (List P2)) (A : Option Addr) (c : Nat) (w : World) (hc : L.length ≤ 17592186044416) (hL : RingsAt w A L) (hS : lenS L ≤ 1000000) :
    Calls Try.prog 18 #[.slice A L.length c] w fun e w' => e = .returned (rectV (pixS L)) ∧ Ext w w' := by
  have HB := Lib.hid (Bounds_any L A c (w.alloc (.cells #[.int .i64 0, .int .i64 0, .int .i64 0, .int .i64 0] 30)) hc (hL.ext (Ext.alloc _ _)) hS)
  have hI := boundsS_inP L
  generalize L.length = n at *
  obtain ⟨v, hv⟩ : ∃ v, v = boundsS L := ⟨_, rfl⟩
  rw [← hv] at HB hI
  have HP := Lib.hid (show pixS L = if v.2.2 then rectCanonS (v.1.1 / 256, v.1.2 / 256, (v.2.1.1 + 255) / 256, (v.2.1.2 + 255) / 256) else (0, 0, 0, 0) from by rw [hv]; rfl)
  obtain ⟨⟨a, b⟩, ⟨p, q⟩, ok⟩ := v
  unfold inP at hI
  simp only at hI
  obtain ⟨⟨i1, i2, i3, i4⟩, i5, i6, i7, i8⟩ := hI
  unfold bndV at HB
  clear hL hv hS
  go_enter Try.func18, Try.ntmps18
  go_wp2_with fail
  refine HB.out.mono ?_
  rintro e w1 ⟨rfl, hE⟩
  have B := (Box.new _ _ _).ext hE
  have hE' := (Ext.alloc _ _).trans hE
  have s2 := B.lt
  clear hE
  cases ok
  · have E := Lib.hid (show pixS L = (0, 0, 0, 0) from HP.out)
    have k := B.cell; have f := B.frozen
    have n1 : ¬ w.heap.size = w1.heap.size := by omega
    have n2 : ¬ w.heap.size = w1.heap.size + 1 := by omega
    clear i1 i2 i3 i4 i5 i6 i7 i8 HP HB
    go_wp2
    exact bodyPost_ret (v := rectV (0, 0, 0, 0)) (by simp [results, Try.results18, go_sem, rectV, k, f]) rfl ⟨by rw [E.out], ((hE'.set4 (Nat.le_refl _) _ _ _ _).trans (Ext.alloc _ _)).trans (Ext.alloc _ _)⟩
  · have E := Lib.hid (show pixS L = _ from by rw [HP.out, if_pos rfl, rectCanon_in ⟨(inR_div i1 i2).1, (inR_div i3 i4).1, (inR_div i5 i6).2, (inR_div i7 i8).2⟩])
    have U3 := Lib.hid (fun w => up_any p w (by omega) (by omega))
    have U4 := Lib.hid (fun w => up_any q w (by omega) (by omega))
    have hcc := up_call
    clear i1 i2 i3 i4 i5 i6 i7 i8 HP HB
    go_wp2_with fail
    apply wp_region_par' 16 (by kernel_rfl) (by kernel_rfl) rfl
    simp only [List.take_succ_cons, List.take_zero, List.drop_succ_cons, List.drop_zero]
    generalize hW : World.drew _ = W
    have hEW : Ext w W := by rw [← hW]; exact ((hE'.trans (Ext.alloc _ _)).trans (Ext.alloc _ _)).trans (Ext.drew _)
    have B2 : Box W w.heap.size 30 #[.int .i64 0, .int .i64 0, .int .i64 0, .int .i64 0] := by rw [← hW]; exact ((B.alloc _).alloc _).drew
    have B3 : Box W w1.heap.size 24 #[.int .i64 a, .int .i64 b] := by rw [← hW]; exact ((Box.new _ _ _).alloc _).drew
    have B4 : Box W (w1.heap.size + 1) 24 #[.int .i64 p, .int .i64 q] := by rw [← hW]; exact (Box.at1).drew
    have s5 := B4.lt
    clear hW
    have k3 := B3.lcell; have k4 := B4.lcell
    iterate 15
      refine parW_step rfl (fun K hK => ?_)
      apply Exists.intro
      refine ⟨fun z => ?_, ?_⟩
      focus
        go_simp
        first
          | rfl
          | with_reducible exact calls_same (U3.out _)
          | with_reducible exact calls_same (U4.out _)
      go_simp
      refine hK _ ?_
      clear hK K
    refine parW_new (t := 30) (cs := #[.int .i64 0, .int .i64 0, .int .i64 0, .int .i64 0]) rfl rfl rfl (by simp) (fun w1 => by kernel_rfl) ?_
    refine parW_fin (fun z => ?_)
    rintro v1 ⟨b7, rfl, h7, B7⟩ hp
    clear hp
    have k7 := B7.cell; have f7 := B7.frozen
    have k2 := (B2.later z).cell; have f2 := (B2.later z).frozen
    have hz := hEW.later z
    have n7 : ¬ b7 = w.heap.size := by omega
    have n7' : ¬ w.heap.size = b7 := by omega
    have h7' : w.heap.size ≤ b7 := by omega
    clear k3 k4
    simp only [Act.put, List.setIfInBounds_toArray, List.set_cons_succ, List.set_cons_zero]
    go_wp2
    · skip
      exact bodyPost_ret (v := rectV (0, 0, 0, 0)) (by simp [results, Try.results18, go_sem, rectV, k2, f2]) rfl ⟨by rw [E.out, if_pos (by omega)], (hz.set4 h7' _ _ _ _).set4 (Nat.le_refl _) _ _ _ _⟩
    · skip
      exact bodyPost_ret (v := rectV (0, 0, 0, 0)) (by simp [results, Try.results18, go_sem, rectV, k2, f2]) rfl ⟨by rw [E.out, if_pos (by omega)], (hz.set4 h7' _ _ _ _).set4 (Nat.le_refl _) _ _ _ _⟩
    · skip
      exact bodyPost_ret (v := rectV (a / 256, b / 256, (p + 255) / 256, (q + 255) / 256)) (by simp [results, Try.results18, go_sem, rectV, k2, f2]) rfl ⟨by rw [E.out, if_neg (by omega)], (hz.set4 h7' _ _ _ _).set4 (Nat.le_refl _) _ _ _ _⟩
end Go.Proofs.Ythfeamlioiaebaa
