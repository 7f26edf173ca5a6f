/- The contracts of the vector layer: clamping, sums, products, orientation, order, in the program and in the reference. -/
import Derived.Test.YthfeamlioiaebaaRows
import Derived.Test.YthfeamlioiaebaaBase
import Derived.Test.YthfeamlioiaebaaMath
set_option linter.unusedVariables false
set_option linter.unusedSimpArgs false
namespace Go.Proofs.Ythfeamlioiaebaa
open Go.RowKit Go.Par


set_option maxHeartbeats 400000 in
theorem clamp_any (n lo hi : Int) (w : World) :
    Calls Try.prog 88 #[.int .i64 n, .int .i64 lo, .int .i64 hi] w fun e w' => e = .returned (.int .i64 (clampS n lo hi)) ∧ w = w' := by
  unfold clampS
  go_enter Try.func88, Try.ntmps88
  go_wp2
  all_goals (go_ret; simp [*]; try omega)
set_option maxHeartbeats 400000 in
theorem rclamp_any (n lo hi : Int) (w : World) :
    Calls Try.prog 99 #[.int .i64 n, .int .i64 lo, .int .i64 hi] w fun e w' => e = .returned (.int .i64 (clampS n lo hi)) ∧ w = w' := by
  unfold clampS
  go_enter Try.func99, Try.ntmps99
  go_wp2
  all_goals (go_ret; simp [*]; try omega)
theorem rsign_any (n : Int) (w : World) :
    Calls Try.prog 73 #[.int .i64 n] w fun e w' => e = .returned (.int .i64 (sgnS n)) ∧ w = w' := by
  unfold sgnS
  go_enter Try.func73, Try.ntmps73
  go_wp2
  all_goals (go_ret; simp [*]; try omega)
theorem held_any (n : Int) (w : World) :
    Calls Try.prog 98 #[.int .i64 n] w fun e w' => e = .returned (.int .i64 (heldS n)) ∧ w = w' := by
  go_enter Try.func98, Try.ntmps98
  go_wp2_with (go_at_call 88; refine (clamp_any _ _ _ _).mono ?_; rintro e w' ⟨rfl, rfl⟩)
  go_ret
  exact ⟨rfl, rfl⟩

set_option maxHeartbeats 400000 in
theorem hold_any (x y : Int) (w : World) :
    Calls Try.prog 87 #[.agg #[.int .i64 x, .int .i64 y]] w fun e w' => e = .returned (.agg #[.int .i64 (heldS x), .int .i64 (heldS y)]) ∧ Ext w w' := by
  go_enter Try.func87, Try.ntmps87
  go_wp2_with fail
  apply wp_region_par' 9 (by kernel_rfl) (by kernel_rfl) rfl
  simp only [List.take_succ_cons, List.take_zero, List.drop_succ_cons, List.drop_zero]
  iterate 9
    refine parW_step rfl (fun K hK => ?_)
    apply Exists.intro
    refine ⟨fun z => ?_, ?_⟩
    focus
      go_simp
      first
        | rfl
        | exact calls_same (held_any _ _)
    go_simp
    refine hK _ ?_
    clear hK K
  refine parW_end (fun z => ?_)
  go_wp2
  exact bodyPost_ret (v := .agg #[.int .i64 (heldS x), .int .i64 (heldS y)]) (by simp [results, Try.results87, go_sem, heldS]) rfl ⟨rfl, ((((Ext.alloc _ _).trans (Ext.alloc _ _)).trans (Ext.drew _)).later z |>.setNew (by simp) _ _).setNew (by simp) _ _⟩
set_option maxHeartbeats 400000 in
theorem rhold_any (x y : Int) (w : World) :
    Calls Try.prog 92 #[.agg #[.int .i64 x, .int .i64 y]] w fun e w' => e = .returned (.agg #[.int .i64 (heldS x), .int .i64 (heldS y)]) ∧ Ext w w' := by
  go_enter Try.func92, Try.ntmps92
  go_wp2_with fail
  apply wp_region_par' 7 (by kernel_rfl) (by kernel_rfl) rfl
  simp only [List.take_succ_cons, List.take_zero, List.drop_succ_cons, List.drop_zero]
  iterate 7
    refine parW_step rfl (fun K hK => ?_)
    apply Exists.intro
    refine ⟨fun z => ?_, ?_⟩
    focus
      go_simp
      first
        | rfl
        | exact calls_same (rclamp_any _ _ _ _)
    go_simp
    refine hK _ ?_
    clear hK K
  refine parW_end (fun z => ?_)
  go_wp2
  exact bodyPost_ret (v := .agg #[.int .i64 (heldS x), .int .i64 (heldS y)]) (by simp [results, Try.results92, go_sem, heldS]) rfl ⟨rfl, ((((Ext.alloc _ _).trans (Ext.alloc _ _)).trans (Ext.drew _)).later z |>.setNew (by simp) _ _).setNew (by simp) _ _⟩
set_option maxHeartbeats 400000 in
theorem valid_any (x y : Int) (w : World) :
    Calls Try.prog 54 #[.agg #[.int .i64 x, .int .i64 y]] w fun e w' => e = .returned (.bool (validS (x, y))) ∧ Ext w w' := by
  go_enter Try.func54, Try.ntmps54
  go_wp2_with fail
  apply wp_region_par' 5 (by kernel_rfl) (by kernel_rfl) rfl
  simp only [List.take_succ_cons, List.take_zero, List.drop_succ_cons, List.drop_zero]
  iterate 5
    refine parW_step rfl (fun K hK => ?_)
    apply Exists.intro
    refine ⟨fun z => ?_, ?_⟩
    focus
      go_simp
      first
        | rfl
        | exact calls_val (hold_any _ _ _)
    go_simp
    refine hK _ ?_
    clear hK K
  refine parW_end (fun z => ?_)
  go_wp2
  go_ret
  refine ⟨ret_eq ?_, ((Ext.alloc _ _).trans (Ext.drew _)).later z⟩
  show Value.bool _ = Value.bool _
  rw [show validS (x, y) = (decide (heldS x = x) && decide (heldS y = y)) from by
    rw [Bool.eq_iff_iff, ← holdS_iff]; simp [holdS]]
set_option maxHeartbeats 400000 in
theorem rvalid_any (x y : Int) (w : World) :
    Calls Try.prog 58 #[.agg #[.int .i64 x, .int .i64 y]] w fun e w' => e = .returned (.bool (validS (x, y))) ∧ Ext w w' := by
  have hv : validS (x, y) = (decide (-1048576 ≤ x) && decide (x ≤ 1048576) && decide (-1048576 ≤ y) && decide (y ≤ 1048576)) := by simp [validS, inB, Bool.and_assoc]
  rw [hv]
  clear hv
  go_enter Try.func58, Try.ntmps58
  go_wp2
  all_goals
    go_ret
    exact ⟨ret_eq (by simp [*] <;> omega), Ext.alloc _ _⟩

/-- two vectors whose product fits -/
def Fits (x y u v : Int) : Prop := -2097152 ≤ x ∧ x ≤ 2097152 ∧ -2097152 ≤ y ∧ y ≤ 2097152 ∧ -2097152 ≤ u ∧ u ≤ 2097152 ∧ -2097152 ≤ v ∧ v ≤ 2097152
set_option maxHeartbeats 400000 in
theorem cross_any (x y u v : Int) (w : World) (h : Fits x y u v) :
    Calls Try.prog 89 #[.agg #[.int .i64 x, .int .i64 y], .agg #[.int .i64 u, .int .i64 v]] w fun e w' => e = .returned (.int .i64 (crossS (x, y) (u, v))) ∧ Ext w w' := by
  obtain ⟨h1, h2, h3, h4, h5, h6, h7, h8⟩ := h
  have b1 := mul_bd (a := 2097152) (b := 2097152) (by decide) (by decide) h1 h2 h7 h8
  have b2 := mul_bd (a := 2097152) (b := 2097152) (by decide) (by decide) h3 h4 h5 h6
  clear h1 h2 h3 h4 h5 h6 h7 h8
  go_enter Try.func89, Try.ntmps89
  go_wp2
  go_ret
  exact ⟨rfl, (Ext.alloc _ _).trans (Ext.alloc _ _)⟩
set_option maxHeartbeats 400000 in
theorem rwedge_any (x y u v : Int) (w : World) (h : Fits x y u v) :
    Calls Try.prog 74 #[.agg #[.int .i64 x, .int .i64 y], .agg #[.int .i64 u, .int .i64 v]] w fun e w' => e = .returned (.int .i64 (crossS (x, y) (u, v))) ∧ Ext w w' := by
  obtain ⟨h1, h2, h3, h4, h5, h6, h7, h8⟩ := h
  have b1 := mul_bd (a := 2097152) (b := 2097152) (by decide) (by decide) h1 h2 h7 h8
  have b2 := mul_bd (a := 2097152) (b := 2097152) (by decide) (by decide) h3 h4 h5 h6
  clear h1 h2 h3 h4 h5 h6 h7 h8
  go_enter Try.func74, Try.ntmps74
  go_wp2
  go_ret
  exact ⟨rfl, (Ext.alloc _ _).trans (Ext.alloc _ _)⟩
set_option maxHeartbeats 400000 in
theorem Cross_any (x y u v : Int) (w : World) :
    Calls Try.prog 64 #[.agg #[.int .i64 x, .int .i64 y], .agg #[.int .i64 u, .int .i64 v]] w fun e w' => e = .returned (.int .i64 (crossS (holdS (x, y)) (holdS (u, v)))) ∧ Ext w w' := by
  have hF : Fits (heldS x) (heldS y) (heldS u) (heldS v) := by
    have := heldS_lo x; have := heldS_lo y; have := heldS_lo u; have := heldS_lo v
    have := heldS_hi x; have := heldS_hi y; have := heldS_hi u; have := heldS_hi v
    unfold Fits; omega
  have HF := Lib.hid hF
  clear hF
  go_enter Try.func64, Try.ntmps64
  go_wp2_with fail
  apply wp_region_par' 6 (by kernel_rfl) (by kernel_rfl) rfl
  simp only [List.take_succ_cons, List.take_zero, List.drop_succ_cons, List.drop_zero]
  iterate 6
    refine parW_step rfl (fun K hK => ?_)
    apply Exists.intro
    refine ⟨fun z => ?_, ?_⟩
    focus
      go_simp
      first
        | rfl
        | exact calls_val (hold_any _ _ _)
        | exact calls_val (cross_any _ _ _ _ _ HF.out)
    go_simp
    refine hK _ ?_
    clear hK K
  refine parW_end (fun z => ?_)
  go_wp2
  go_ret
  exact ⟨rfl, (((Ext.alloc _ _).trans (Ext.alloc _ _)).trans (Ext.drew _)).later z⟩
set_option maxHeartbeats 400000 in
theorem rCross_any (x y u v : Int) (w : World) :
    Calls Try.prog 66 #[.agg #[.int .i64 x, .int .i64 y], .agg #[.int .i64 u, .int .i64 v]] w fun e w' => e = .returned (.int .i64 (crossS (holdS (x, y)) (holdS (u, v)))) ∧ Ext w w' := by
  have hF : Fits (heldS x) (heldS y) (heldS u) (heldS v) := by
    have := heldS_lo x; have := heldS_lo y; have := heldS_lo u; have := heldS_lo v
    have := heldS_hi x; have := heldS_hi y; have := heldS_hi u; have := heldS_hi v
    unfold Fits; omega
  have HF := Lib.hid hF
  clear hF
  go_enter Try.func66, Try.ntmps66
  go_wp2_with fail
  apply wp_region_par' 6 (by kernel_rfl) (by kernel_rfl) rfl
  simp only [List.take_succ_cons, List.take_zero, List.drop_succ_cons, List.drop_zero]
  iterate 6
    refine parW_step rfl (fun K hK => ?_)
    apply Exists.intro
    refine ⟨fun z => ?_, ?_⟩
    focus
      go_simp
      first
        | rfl
        | exact calls_val (rhold_any _ _ _)
        | exact calls_val (rwedge_any _ _ _ _ _ HF.out)
    go_simp
    refine hK _ ?_
    clear hK K
  refine parW_end (fun z => ?_)
  go_wp2
  go_ret
  exact ⟨rfl, (((Ext.alloc _ _).trans (Ext.alloc _ _)).trans (Ext.drew _)).later z⟩
set_option maxHeartbeats 400000 in
theorem Add_any (x y u v : Int) (w : World) :
    Calls Try.prog 65 #[.agg #[.int .i64 x, .int .i64 y], .agg #[.int .i64 u, .int .i64 v]] w fun e w' => e = .returned (.agg #[.int .i64 (heldS x + heldS u), .int .i64 (heldS y + heldS v)]) ∧ Ext w w' := by
  have := heldS_lo x; have := heldS_lo y; have := heldS_lo u; have := heldS_lo v
  have := heldS_hi x; have := heldS_hi y; have := heldS_hi u; have := heldS_hi v
  go_enter Try.func65, Try.ntmps65
  go_wp2_with fail
  apply wp_region_par' 4 (by kernel_rfl) (by kernel_rfl) rfl
  simp only [List.take_succ_cons, List.take_zero, List.drop_succ_cons, List.drop_zero]
  generalize hW : World.drew _ = W
  have hE : Ext w W := by rw [← hW]; exact ((Ext.alloc _ _).trans (Ext.alloc _ _)).trans ((Ext.alloc _ _).trans (Ext.drew _))
  have b2 : Box W w.heap.size 24 #[.int .i64 x, .int .i64 y] := by rw [← hW]; exact (((Box.new _ _ _).alloc _).alloc _).drew
  have b3 : Box W (w.heap.size + 1) 24 #[.int .i64 u, .int .i64 v] := by rw [← hW]; exact ((Box.newAt (by simp)).alloc _).drew
  have b4 : Box W (w.heap.size + 2) 24 #[.int .i64 0, .int .i64 0] := by rw [← hW]; exact (Box.newAt (by simp)).drew
  clear hW
  have c2 := b2.lcell; have c3 := b3.lcell; have c4 := b4.lcell
  have f2 := b2.lfrozen; have f3 := b3.lfrozen; have f4 := b4.lfrozen
  iterate 4
    refine parW_step rfl (fun K hK => ?_)
    apply Exists.intro
    refine ⟨fun z => ?_, ?_⟩
    focus
      go_simp
      first
        | rfl
        | exact calls_val (hold_any _ _ _)
    go_simp
    refine hK _ ?_
    clear hK K
  refine parW_end (fun z => ?_)
  go_wp2
  exact bodyPost_ret (v := .agg #[.int .i64 (heldS x + heldS u), .int .i64 (heldS y + heldS v)]) (by simp [results, Try.results65, go_sem, c4]) rfl ⟨rfl, ((((((hE.later z).setNew (by omega) _ _).setNew (by omega) _ _).setNew (by omega) _ _).setNew (by omega) _ _).setNew (by omega) _ _).setNew (by omega) _ _⟩
set_option maxHeartbeats 400000 in
theorem Sub_any (x y u v : Int) (w : World) :
    Calls Try.prog 90 #[.agg #[.int .i64 x, .int .i64 y], .agg #[.int .i64 u, .int .i64 v]] w fun e w' => e = .returned (.agg #[.int .i64 (heldS x - heldS u), .int .i64 (heldS y - heldS v)]) ∧ Ext w w' := by
  have := heldS_lo x; have := heldS_lo y; have := heldS_lo u; have := heldS_lo v
  have := heldS_hi x; have := heldS_hi y; have := heldS_hi u; have := heldS_hi v
  go_enter Try.func90, Try.ntmps90
  go_wp2_with fail
  apply wp_region_par' 4 (by kernel_rfl) (by kernel_rfl) rfl
  simp only [List.take_succ_cons, List.take_zero, List.drop_succ_cons, List.drop_zero]
  generalize hW : World.drew _ = W
  have hE : Ext w W := by rw [← hW]; exact ((Ext.alloc _ _).trans (Ext.alloc _ _)).trans ((Ext.alloc _ _).trans (Ext.drew _))
  have b2 : Box W w.heap.size 24 #[.int .i64 x, .int .i64 y] := by rw [← hW]; exact (((Box.new _ _ _).alloc _).alloc _).drew
  have b3 : Box W (w.heap.size + 1) 24 #[.int .i64 u, .int .i64 v] := by rw [← hW]; exact ((Box.newAt (by simp)).alloc _).drew
  have b4 : Box W (w.heap.size + 2) 24 #[.int .i64 0, .int .i64 0] := by rw [← hW]; exact (Box.newAt (by simp)).drew
  clear hW
  have c2 := b2.lcell; have c3 := b3.lcell; have c4 := b4.lcell
  have f2 := b2.lfrozen; have f3 := b3.lfrozen; have f4 := b4.lfrozen
  iterate 4
    refine parW_step rfl (fun K hK => ?_)
    apply Exists.intro
    refine ⟨fun z => ?_, ?_⟩
    focus
      go_simp
      first
        | rfl
        | exact calls_val (hold_any _ _ _)
    go_simp
    refine hK _ ?_
    clear hK K
  refine parW_end (fun z => ?_)
  go_wp2
  exact bodyPost_ret (v := .agg #[.int .i64 (heldS x - heldS u), .int .i64 (heldS y - heldS v)]) (by simp [results, Try.results90, go_sem, c4]) rfl ⟨rfl, ((((((hE.later z).setNew (by omega) _ _).setNew (by omega) _ _).setNew (by omega) _ _).setNew (by omega) _ _).setNew (by omega) _ _).setNew (by omega) _ _⟩
set_option maxHeartbeats 400000 in
theorem rAdd_any (x y u v : Int) (w : World) :
    Calls Try.prog 70 #[.agg #[.int .i64 x, .int .i64 y], .agg #[.int .i64 u, .int .i64 v]] w fun e w' => e = .returned (.agg #[.int .i64 (heldS x + heldS u), .int .i64 (heldS y + heldS v)]) ∧ Ext w w' := by
  have := heldS_lo x; have := heldS_lo y; have := heldS_lo u; have := heldS_lo v
  have := heldS_hi x; have := heldS_hi y; have := heldS_hi u; have := heldS_hi v
  go_enter Try.func70, Try.ntmps70
  go_wp2_with fail
  apply wp_region_par' 6 (by kernel_rfl) (by kernel_rfl) rfl
  simp only [List.take_succ_cons, List.take_zero, List.drop_succ_cons, List.drop_zero]
  generalize hW : World.drew _ = W
  have hE : Ext w W := by rw [← hW]; exact ((Ext.alloc _ _).trans (Ext.alloc _ _)).trans ((Ext.alloc _ _).trans (Ext.drew _))
  have hS : W.heap.size = w.heap.size + 3 := by rw [← hW]; simp
  have b2 : Box W w.heap.size 24 #[.int .i64 x, .int .i64 y] := by rw [← hW]; exact (((Box.new _ _ _).alloc _).alloc _).drew
  have b3 : Box W (w.heap.size + 1) 24 #[.int .i64 u, .int .i64 v] := by rw [← hW]; exact ((Box.newAt (by simp)).alloc _).drew
  have b4 : Box W (w.heap.size + 2) 24 #[.int .i64 0, .int .i64 0] := by rw [← hW]; exact (Box.newAt (by simp)).drew
  clear hW
  have HS := Lib.hid hS
  clear hS
  have c2 := b2.lcell; have c3 := b3.lcell; have c4 := b4.lcell; have f4 := b4.lfrozen
  iterate 4
    refine parW_step rfl (fun K hK => ?_)
    apply Exists.intro
    refine ⟨fun z => ?_, ?_⟩
    focus
      go_simp
      first
        | rfl
        | exact calls_val (rhold_any _ _ _)
    go_simp
    refine hK _ ?_
    clear hK K
  refine parW_new (t := 24) (cs := #[.int .i64 0, .int .i64 0]) rfl rfl rfl (by simp) (fun w1 => by kernel_rfl) ?_
  refine parW_new (t := 24) (cs := #[.int .i64 0, .int .i64 0]) rfl rfl rfl (by simp) (fun w1 => by kernel_rfl) ?_
  refine parW_fin (fun z => ?_)
  rintro v1 ⟨b5, rfl, h5, B5⟩ v2 ⟨b6, rfl, h6, B6⟩ hp
  rw [HS.out] at h5 h6
  have hne : b5 ≠ b6 := by simpa [blockOf] using hp
  clear hp
  have c5 := B5.cell; have c6 := B6.cell; have f5 := B5.frozen; have f6 := B6.frozen
  simp only [Act.put, List.setIfInBounds_toArray, List.set_cons_succ, List.set_cons_zero]
  go_wp2
  exact bodyPost_ret (v := .agg #[.int .i64 (heldS x + heldS u), .int .i64 (heldS y + heldS v)]) (by simp [results, Try.results70, go_sem, c4]) rfl ⟨rfl, ((((((hE.later z).setNew (by omega) _ _).setNew (by omega) _ _).setNew (by omega) _ _).setNew (by omega) _ _).setNew (by omega) _ _).setNew (by omega) _ _⟩
set_option maxHeartbeats 400000 in
theorem rSub_any (x y u v : Int) (w : World) :
    Calls Try.prog 75 #[.agg #[.int .i64 x, .int .i64 y], .agg #[.int .i64 u, .int .i64 v]] w fun e w' => e = .returned (.agg #[.int .i64 (heldS x - heldS u), .int .i64 (heldS y - heldS v)]) ∧ Ext w w' := by
  have := heldS_lo x; have := heldS_lo y; have := heldS_lo u; have := heldS_lo v
  have := heldS_hi x; have := heldS_hi y; have := heldS_hi u; have := heldS_hi v
  go_enter Try.func75, Try.ntmps75
  go_wp2_with fail
  apply wp_region_par' 6 (by kernel_rfl) (by kernel_rfl) rfl
  simp only [List.take_succ_cons, List.take_zero, List.drop_succ_cons, List.drop_zero]
  generalize hW : World.drew _ = W
  have hE : Ext w W := by rw [← hW]; exact ((Ext.alloc _ _).trans (Ext.alloc _ _)).trans ((Ext.alloc _ _).trans (Ext.drew _))
  have hS : W.heap.size = w.heap.size + 3 := by rw [← hW]; simp
  have b2 : Box W w.heap.size 24 #[.int .i64 x, .int .i64 y] := by rw [← hW]; exact (((Box.new _ _ _).alloc _).alloc _).drew
  have b3 : Box W (w.heap.size + 1) 24 #[.int .i64 u, .int .i64 v] := by rw [← hW]; exact ((Box.newAt (by simp)).alloc _).drew
  have b4 : Box W (w.heap.size + 2) 24 #[.int .i64 0, .int .i64 0] := by rw [← hW]; exact (Box.newAt (by simp)).drew
  clear hW
  have HS := Lib.hid hS
  clear hS
  have c2 := b2.lcell; have c3 := b3.lcell; have c4 := b4.lcell; have f4 := b4.lfrozen
  iterate 4
    refine parW_step rfl (fun K hK => ?_)
    apply Exists.intro
    refine ⟨fun z => ?_, ?_⟩
    focus
      go_simp
      first
        | rfl
        | exact calls_val (rhold_any _ _ _)
    go_simp
    refine hK _ ?_
    clear hK K
  refine parW_new (t := 24) (cs := #[.int .i64 0, .int .i64 0]) rfl rfl rfl (by simp) (fun w1 => by kernel_rfl) ?_
  refine parW_new (t := 24) (cs := #[.int .i64 0, .int .i64 0]) rfl rfl rfl (by simp) (fun w1 => by kernel_rfl) ?_
  refine parW_fin (fun z => ?_)
  rintro v1 ⟨b5, rfl, h5, B5⟩ v2 ⟨b6, rfl, h6, B6⟩ hp
  rw [HS.out] at h5 h6
  have hne : b5 ≠ b6 := by simpa [blockOf] using hp
  clear hp
  have c5 := B5.cell; have c6 := B6.cell; have f5 := B5.frozen; have f6 := B6.frozen
  simp only [Act.put, List.setIfInBounds_toArray, List.set_cons_succ, List.set_cons_zero]
  go_wp2
  exact bodyPost_ret (v := .agg #[.int .i64 (heldS x - heldS u), .int .i64 (heldS y - heldS v)]) (by simp [results, Try.results75, go_sem, c4]) rfl ⟨rfl, ((((((hE.later z).setNew (by omega) _ _).setNew (by omega) _ _).setNew (by omega) _ _).setNew (by omega) _ _).setNew (by omega) _ _).setNew (by omega) _ _⟩
set_option maxHeartbeats 400000 in
theorem Less_any (x y u v : Int) (w : World) :
    Calls Try.prog 95 #[.agg #[.int .i64 x, .int .i64 y], .agg #[.int .i64 u, .int .i64 v]] w fun e w' => e = .returned (.bool (lessS (x, y) (u, v))) ∧ Ext w w' := by
  go_enter Try.func95, Try.ntmps95
  go_wp2_with fail
  apply wp_region_par' 4 (by kernel_rfl) (by kernel_rfl) rfl
  simp only [List.take_succ_cons, List.take_zero, List.drop_succ_cons, List.drop_zero]
  generalize hW : World.drew _ = W
  have hE : Ext w W := by rw [← hW]; exact ((Ext.alloc _ _).trans (Ext.alloc _ _)).trans (Ext.drew _)
  have b2 : Box W w.heap.size 24 #[.int .i64 x, .int .i64 y] := by rw [← hW]; exact ((Box.new _ _ _).alloc _).drew
  have b3 : Box W (w.heap.size + 1) 24 #[.int .i64 u, .int .i64 v] := by rw [← hW]; exact (Box.newAt (by simp)).drew
  clear hW
  have c2 := b2.lcell; have c3 := b3.lcell
  have f2 := b2.lfrozen; have f3 := b3.lfrozen
  iterate 4
    refine parW_step rfl (fun K hK => ?_)
    apply Exists.intro
    refine ⟨fun z => ?_, ?_⟩
    focus
      go_simp
      first
        | rfl
        | exact calls_val (hold_any _ _ _)
    go_simp
    refine hK _ ?_
    clear hK K
  refine parW_end (fun z => ?_)
  go_wp2
  all_goals
    go_ret
    exact ⟨ret_eq (by simp [lessS, *]), ((((hE.later z).setNew (by omega) _ _).setNew (by omega) _ _).setNew (by omega) _ _).setNew (by omega) _ _⟩
set_option maxHeartbeats 400000 in
theorem rLess_any (x y u v : Int) (w : World) :
    Calls Try.prog 83 #[.agg #[.int .i64 x, .int .i64 y], .agg #[.int .i64 u, .int .i64 v]] w fun e w' => e = .returned (.bool (lessS (x, y) (u, v))) ∧ Ext w w' := by
  go_enter Try.func83, Try.ntmps83
  go_wp2_with fail
  apply wp_region_par' 6 (by kernel_rfl) (by kernel_rfl) rfl
  simp only [List.take_succ_cons, List.take_zero, List.drop_succ_cons, List.drop_zero]
  generalize hW : World.drew _ = W
  have hE : Ext w W := by rw [← hW]; exact ((Ext.alloc _ _).trans (Ext.alloc _ _)).trans (Ext.drew _)
  have hS : W.heap.size = w.heap.size + 2 := by rw [← hW]; simp
  have b2 : Box W w.heap.size 24 #[.int .i64 x, .int .i64 y] := by rw [← hW]; exact ((Box.new _ _ _).alloc _).drew
  have b3 : Box W (w.heap.size + 1) 24 #[.int .i64 u, .int .i64 v] := by rw [← hW]; exact (Box.newAt (by simp)).drew
  clear hW
  have HS := Lib.hid hS
  clear hS
  have c2 := b2.lcell; have c3 := b3.lcell
  iterate 4
    refine parW_step rfl (fun K hK => ?_)
    apply Exists.intro
    refine ⟨fun z => ?_, ?_⟩
    focus
      go_simp
      first
        | rfl
        | exact calls_val (rhold_any _ _ _)
    go_simp
    refine hK _ ?_
    clear hK K
  refine parW_new (t := 24) (cs := #[.int .i64 0, .int .i64 0]) rfl rfl rfl (by simp) (fun w1 => by kernel_rfl) ?_
  refine parW_new (t := 24) (cs := #[.int .i64 0, .int .i64 0]) rfl rfl rfl (by simp) (fun w1 => by kernel_rfl) ?_
  refine parW_fin (fun z => ?_)
  rintro v1 ⟨b5, rfl, h5, B5⟩ v2 ⟨b6, rfl, h6, B6⟩ hp
  rw [HS.out] at h5 h6
  have hne : b5 ≠ b6 := by simpa [blockOf] using hp
  clear hp
  have c5 := B5.cell; have c6 := B6.cell; have f5 := B5.frozen; have f6 := B6.frozen
  simp only [Act.put, List.setIfInBounds_toArray, List.set_cons_succ, List.set_cons_zero]
  go_wp2
  all_goals
    go_ret
    exact ⟨ret_eq (by simp [lessS, *]), ((((hE.later z).setNew (by omega) _ _).setNew (by omega) _ _).setNew (by omega) _ _).setNew (by omega) _ _⟩
set_option maxHeartbeats 400000 in
theorem Orient_any (x y u v p q : Int) (w : World) :
    Calls Try.prog 56 #[.agg #[.int .i64 x, .int .i64 y], .agg #[.int .i64 u, .int .i64 v], .agg #[.int .i64 p, .int .i64 q]] w fun e w' => e = .returned (.int .i64 (orientS (x, y) (u, v) (p, q))) ∧ Ext w w' := by
  have hF : Fits (heldS u - heldS x) (heldS v - heldS y) (heldS p - heldS x) (heldS q - heldS y) := by
    have := heldS_lo x; have := heldS_lo y; have := heldS_lo u; have := heldS_lo v
    have := heldS_hi x; have := heldS_hi y; have := heldS_hi u; have := heldS_hi v
    have := heldS_lo p; have := heldS_lo q; have := heldS_hi p; have := heldS_hi q
    unfold Fits; omega
  have HF := Lib.hid hF
  clear hF
  go_enter Try.func56, Try.ntmps56
  go_wp2_with fail
  apply wp_region_par' 9 (by kernel_rfl) (by kernel_rfl) rfl
  simp only [List.take_succ_cons, List.take_zero, List.drop_succ_cons, List.drop_zero]
  generalize hW : World.drew _ = W
  have hE : Ext w W := by rw [← hW]; exact ((Ext.alloc _ _).trans (Ext.alloc _ _)).trans ((Ext.alloc _ _).trans (Ext.drew _))
  have b2 : Box W w.heap.size 24 #[.int .i64 x, .int .i64 y] := by rw [← hW]; exact (((Box.new _ _ _).alloc _).alloc _).drew
  have b3 : Box W (w.heap.size + 1) 24 #[.int .i64 u, .int .i64 v] := by rw [← hW]; exact ((Box.newAt (by simp)).alloc _).drew
  have b4 : Box W (w.heap.size + 2) 24 #[.int .i64 p, .int .i64 q] := by rw [← hW]; exact (Box.newAt (by simp)).drew
  clear hW
  have c2 := b2.lcell; have c3 := b3.lcell; have c4 := b4.lcell
  iterate 9
    refine parW_step rfl (fun K hK => ?_)
    apply Exists.intro
    refine ⟨fun z => ?_, ?_⟩
    focus
      go_simp
      first
        | rfl
        | exact calls_val (Sub_any _ _ _ _ _)
        | exact calls_val (cross_any _ _ _ _ _ HF.out)
        | exact calls_same (clamp_any _ _ _ _)
    go_simp
    refine hK _ ?_
    clear hK K
  refine parW_end (fun z => ?_)
  go_wp2
  go_ret
  exact ⟨rfl, hE.later z⟩
set_option maxHeartbeats 400000 in
theorem rOrient_any (x y u v p q : Int) (w : World) :
    Calls Try.prog 41 #[.agg #[.int .i64 x, .int .i64 y], .agg #[.int .i64 u, .int .i64 v], .agg #[.int .i64 p, .int .i64 q]] w fun e w' => e = .returned (.int .i64 (orientS (x, y) (u, v) (p, q))) ∧ Ext w w' := by
  have hF : Fits (heldS u - heldS x) (heldS v - heldS y) (heldS p - heldS x) (heldS q - heldS y) := by
    have := heldS_lo x; have := heldS_lo y; have := heldS_lo u; have := heldS_lo v
    have := heldS_hi x; have := heldS_hi y; have := heldS_hi u; have := heldS_hi v
    have := heldS_lo p; have := heldS_lo q; have := heldS_hi p; have := heldS_hi q
    unfold Fits; omega
  have HF := Lib.hid hF
  clear hF
  go_enter Try.func41, Try.ntmps41
  go_wp2_with fail
  apply wp_region_par' 9 (by kernel_rfl) (by kernel_rfl) rfl
  simp only [List.take_succ_cons, List.take_zero, List.drop_succ_cons, List.drop_zero]
  generalize hW : World.drew _ = W
  have hE : Ext w W := by rw [← hW]; exact ((Ext.alloc _ _).trans (Ext.alloc _ _)).trans ((Ext.alloc _ _).trans (Ext.drew _))
  have b2 : Box W w.heap.size 24 #[.int .i64 x, .int .i64 y] := by rw [← hW]; exact (((Box.new _ _ _).alloc _).alloc _).drew
  have b3 : Box W (w.heap.size + 1) 24 #[.int .i64 u, .int .i64 v] := by rw [← hW]; exact ((Box.newAt (by simp)).alloc _).drew
  have b4 : Box W (w.heap.size + 2) 24 #[.int .i64 p, .int .i64 q] := by rw [← hW]; exact (Box.newAt (by simp)).drew
  clear hW
  have c2 := b2.lcell; have c3 := b3.lcell; have c4 := b4.lcell
  iterate 9
    refine parW_step rfl (fun K hK => ?_)
    apply Exists.intro
    refine ⟨fun z => ?_, ?_⟩
    focus
      go_simp
      first
        | rfl
        | exact calls_val (rSub_any _ _ _ _ _)
        | exact calls_val (rwedge_any _ _ _ _ _ HF.out)
        | exact calls_same (rsign_any _ _)
    go_simp
    refine hK _ ?_
    clear hK K
  refine parW_end (fun z => ?_)
  go_wp2
  go_ret
  exact ⟨ret_eq (by rw [orientS_sgn]; rfl), hE.later z⟩
end Go.Proofs.Ythfeamlioiaebaa
