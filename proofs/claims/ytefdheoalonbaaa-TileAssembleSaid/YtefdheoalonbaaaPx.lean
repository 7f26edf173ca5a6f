/- Pixels: color.Valid and the reference's; rows of pixels. -/
import Derived.Test.YtefdheoalonbaaaInts
import Derived.BigRegion
set_option linter.unusedVariables false
set_option linter.unusedSimpArgs false
namespace Go.Proofs.Ytefdheoalonbaaa
open Go.RowKit Go.Par

abbrev P4 := Int × Int × Int × Int
def pxV (p : P4) : Value := .agg #[.int .u8 p.1, .int .u8 p.2.1, .int .u8 p.2.2.1, .int .u8 p.2.2.2]
def pixE : EL Try.prog P4 where
  enc := fun r => [.int .u8 r.1, .int .u8 r.2.1, .int .u8 r.2.2.1, .int .u8 r.2.2.2]
  size := 4
  t := 41
  st := 32
  zero := .agg #[.int .u8 0, .int .u8 0, .int .u8 0, .int .u8 0]
  bytes := 4
  len := fun _ => rfl
  one := fun x v hv => by simp at hv; rcases hv with rfl | rfl | rfl | rfl <;> rfl
  pos := by decide
  und := Try.underlying32
  info := by kernel_rfl
  zsize := rfl
  small := by decide
theorem pix_cells {w : World} {b o : Nat} {l : List P4} (hcell : ∀ i x, l[i]? = some x → ∀ j v, (pixE.enc x)[j]? = some v → w.cell? ⟨b, o + i * pixE.size + j, none⟩ = some v) {k : Nat} {r : P4} (hk : l[k]? = some r) :
    w.cell? ⟨b, o + k * 4, none⟩ = some (.int .u8 r.1) ∧ w.cell? ⟨b, o + k * 4 + 1, none⟩ = some (.int .u8 r.2.1) ∧ w.cell? ⟨b, o + k * 4 + 2, none⟩ = some (.int .u8 r.2.2.1) ∧ w.cell? ⟨b, o + k * 4 + 3, none⟩ = some (.int .u8 r.2.2.2) :=
  ⟨hcell k r hk 0 _ rfl, hcell k r hk 1 _ rfl, hcell k r hk 2 _ rfl, hcell k r hk 3 _ rfl⟩
def pxOk (p : P4) : Bool := decide (p.1 ≤ p.2.2.2) && decide (p.2.1 ≤ p.2.2.2) && decide (p.2.2.1 ≤ p.2.2.2)
set_option maxHeartbeats 400000 in
theorem rPxValid_any (r g b a : Int) (w : World) :
    Calls Try.prog 71 #[.agg #[.int .u8 r, .int .u8 g, .int .u8 b, .int .u8 a]] w fun e w' => e = .returned (.bool (pxOk (r, g, b, a))) ∧ Ext w w' := by
  have HP := Lib.hid (show pxOk (r, g, b, a) = (decide (r ≤ a) && decide (g ≤ a) && decide (b ≤ a)) from rfl)
  rw [HP.out]
  go_enter Try.func71, Try.ntmps71
  go_wp2
  all_goals (go_ret; exact ⟨ret_eq (by simp [*] <;> omega), Ext.alloc _ _⟩)
theorem clamp1_any (n b : Nat) (m r g bb a : Int) (w : World) (h : Box w b 41 #[.int .u8 r, .int .u8 g, .int .u8 bb, .int .u8 a]) :
    Calls Try.prog 96 #[.int .u8 m, .pointer (some ⟨b, 0, none⟩)] w fun e w' => e = .returned (.int .u8 (min m a)) ∧ w = w' := by
  have c := h.cell
  have hm : (if a < m then a else m) = min m a := by split <;> omega
  go_enter Try.func96, Try.ntmps96
  go_wp2
  go_ret
  exact ⟨rfl, rfl⟩
set_option maxHeartbeats 800000 in
theorem each_any (r g b a : Int) (bc : Nat) (w : World) (h : Box w bc 41 #[.int .u8 r, .int .u8 g, .int .u8 b, .int .u8 a]) :
    Calls Try.prog 95 #[.agg #[.int .u8 r, .int .u8 g, .int .u8 b, .int .u8 a], .func (.func 96) #[] #[.pointer (some ⟨bc, 0, none⟩)]] w fun e w' => e = .returned (pxV (min r a, min g a, min b a, min a a)) ∧ Ext w w' := by
  have HC := Lib.hid (fun m W (k : Ext w W) => clamp1_any 0 bc m r g b a W (h.ext k))
  clear h
  go_enter Try.func95, Try.ntmps95
  go_wp2_with fail
  apply wp_region_par' 17 (by kernel_rfl) (by kernel_rfl) rfl
  simp only [List.take_succ_cons, List.take_zero, List.drop_succ_cons, List.drop_zero]
  generalize hW : World.drew _ = W
  have hE : Ext w W := by rw [← hW]; exact ((Ext.alloc _ _).trans (Ext.alloc _ _)).trans (Ext.drew _)
  have b2 : Box W w.heap.size 41 #[.int .u8 r, .int .u8 g, .int .u8 b, .int .u8 a] := by rw [← hW]; exact ((Box.new _ _ _).alloc _).drew
  have b4 : Box W (w.heap.size + 1) 41 #[.int .u8 0, .int .u8 0, .int .u8 0, .int .u8 0] := by rw [← hW]; exact Box.at1.drew
  clear hW
  have c2 := b2.lcell
  have eC : ∀ args W, (callFunc 96 args).run Try.prog W = .ok (.enter 96 args) W := enters_of Try.func96 (by kernel_rfl) rfl
  iterate 17
    refine parW_step rfl (fun K hK => ?_)
    apply Exists.intro
    refine ⟨fun z => ?_, ?_⟩
    focus
      go_simp
      first
        | rfl
        | with_reducible exact calls_same (HC.out _ _ (hE.later z))
    go_simp
    refine hK _ ?_
    clear hK K
  refine parW_end (fun z => ?_)
  have c4 := b4.lcell z
  have f4 := b4.lfrozen z
  go_wp2
  exact bodyPost_ret (v := pxV (min r a, min g a, min b a, min a a)) (by simp [results, Try.results95, go_sem, pxV, c4, f4]) rfl ⟨rfl, (hE.later z).set4 (Nat.le_succ _) _ _ _ _⟩
set_option maxHeartbeats 800000 in
theorem Clamp_px (r g b a : Int) (w : World) :
    Calls Try.prog 83 #[.agg #[.int .u8 r, .int .u8 g, .int .u8 b, .int .u8 a]] w fun e w' => e = .returned (pxV (min r a, min g a, min b a, min a a)) ∧ Ext w w' := by
  have b1 := (Box.new w 41 #[.int .u8 r, .int .u8 g, .int .u8 b, .int .u8 a]).alloc (.cells #[.int .u8 0, .int .u8 0, .int .u8 0, .int .u8 0] 41)
  have b2 := Box.at1 (w := w) (o := .cells #[.int .u8 r, .int .u8 g, .int .u8 b, .int .u8 a] 41) (t := 41) (cs := #[.int .u8 0, .int .u8 0, .int .u8 0, .int .u8 0])
  have HE := Lib.hid (each_any r g b a w.heap.size _ b1)
  unfold pxV at HE
  clear b1
  go_enter Try.func83, Try.ntmps83
  go_wp2_with fail
  refine HE.out.mono ?_
  rintro e w1 ⟨rfl, hE1⟩
  have b3 := b2.ext hE1
  have c3 := b3.cell
  have f3 := b3.frozen
  clear b2 HE
  go_wp2
  exact bodyPost_ret (v := pxV (min r a, min g a, min b a, min a a)) (by simp [results, Try.results83, go_sem, pxV, c3, f3]) rfl ⟨rfl, (((Ext.alloc _ _).trans (Ext.alloc _ _)).trans hE1).set4 (Nat.le_succ _) _ _ _ _⟩
set_option maxHeartbeats 800000 in
theorem PxValid_any (r g b a : Int) (w : World) :
    Calls Try.prog 70 #[.agg #[.int .u8 r, .int .u8 g, .int .u8 b, .int .u8 a]] w fun e w' => e = .returned (.bool (pxOk (r, g, b, a))) ∧ Ext w w' := by
  have HP := Lib.hid (show pxOk (r, g, b, a) = (decide (r ≤ a) && decide (g ≤ a) && decide (b ≤ a)) from rfl)
  have HC := Lib.hid (fun W => Clamp_px r g b a W)
  unfold pxV at HC
  go_enter Try.func70, Try.ntmps70
  go_wp2_with fail
  apply wp_region_par' 4 (by kernel_rfl) (by kernel_rfl) rfl
  simp only [List.take_succ_cons, List.take_zero, List.drop_succ_cons, List.drop_zero]
  generalize hW : World.drew _ = W
  have hE : Ext w W := by rw [← hW]; exact (Ext.alloc _ _).trans (Ext.drew _)
  have b2 : Box W w.heap.size 41 #[.int .u8 r, .int .u8 g, .int .u8 b, .int .u8 a] := by rw [← hW]; exact (Box.new _ _ _).drew
  clear hW
  have c2 := b2.lcell
  iterate 4
    refine parW_step rfl (fun K hK => ?_)
    apply Exists.intro
    refine ⟨fun z => ?_, ?_⟩
    focus
      go_simp
      first
        | rfl
        | with_reducible exact calls_val (HC.out _)
    go_simp
    refine hK _ ?_
    clear hK K
  refine parW_end (fun z => ?_)
  go_wp2
  go_ret
  refine ⟨ret_eq ?_, hE.later z⟩
  rw [HP.out]
  have h1 : ∀ x : Int, (min x a = x) = (x ≤ a) := fun x => propext ⟨fun h => by omega, fun h => by omega⟩
  show Value.bool (decide (min r a = r) && (decide (min g a = g) && decide (min b a = b))) = _
  simp only [h1, Bool.and_assoc]
end Go.Proofs.Ytefdheoalonbaaa
