/- The reference's pixelAt and Crop. -/
import Derived.Test.YtefdheoalonbaaaBmVR
import Derived.Test.YtefdheoalonbaaaSplit
import Derived.Test.YtefdheoalonbaaaAsmR2
set_option linter.unusedVariables false
set_option linter.unusedSimpArgs false
namespace Go.Proofs.Ytefdheoalonbaaa
open Go.RowKit Go.Par

set_option maxRecDepth 100000 in
set_option maxHeartbeats 800000 in
theorem pixelAt_any (x0 y0 x1 y1 : Int) (A : Option Addr) (c n : Nat) (l : List P4) (x y : Int) (w : World) (hn : l.length = n) (h : pixE.At w A l) (hok : bmOk ((x0, y0, x1, y1), l) = true) :
    Calls Try.prog 73 #[.agg #[.int .i64 x0, .int .i64 y0, .int .i64 x1, .int .i64 y1, .slice A n c], .int .i64 x, .int .i64 y] w fun e w' => e = .returned (pxV (pixAt ((x0, y0, x1, y1), l) x y)) ∧ Ext w w' := by
  have HH := Lib.hid (fun W => rectHas_any x0 y0 x1 y1 x y W)
  have HP := Lib.hid (fun W => rPixIx_any x0 y0 x1 y1 x y W)
  have HN := Lib.hid hn
  clear hn
  go_enter Try.func73, Try.ntmps73
  have b3 := (Box.new w 34 #[.int .i64 x0, .int .i64 y0, .int .i64 x1, .int .i64 y1, .slice A n c]).alloc (.cells #[.int .u8 0, .int .u8 0, .int .u8 0, .int .u8 0] 41)
  have b6 := Box.at1 (w := w) (o := .cells #[.int .i64 x0, .int .i64 y0, .int .i64 x1, .int .i64 y1, .slice A n c] 34) (t := 41) (cs := #[.int .u8 0, .int .u8 0, .int .u8 0, .int .u8 0])
  have hE := (Ext.alloc w (.cells #[.int .i64 x0, .int .i64 y0, .int .i64 x1, .int .i64 y1, .slice A n c] 34)).trans (Ext.alloc _ (.cells #[.int .u8 0, .int .u8 0, .int .u8 0, .int .u8 0] 41))
  go_wp2_with fail
  refine (HH.out _).mono ?_
  rintro e w1 ⟨rfl, hE1⟩
  replace b3 := b3.ext hE1
  replace b6 := b6.ext hE1
  replace hE := hE.trans hE1
  clear hE1
  cases hh : rectHasS (x0, y0, x1, y1) x y
  · have HR := Lib.hid (show pixAt ((x0, y0, x1, y1), l) x y = (0, 0, 0, 0) from by unfold pixAt; rw [hh]; rfl)
    have c6 := b6.cell
    have f6 := b6.frozen
    clear hh
    go_wp2
    exact bodyPost_ret (v := pxV (0, 0, 0, 0)) (by simp [results, Try.results73, go_sem, pxV, c6, f6]) rfl ⟨by rw [HR.out], hE.set4 (by omega) _ _ _ _⟩
  · obtain ⟨k, hk, hpx⟩ := pix_yes hok hh
    dsimp only at hk hpx
    rw [hk] at HP
    have hkl : k < n := by rw [← HN.out]; exact (List.getElem?_eq_some_iff.1 hpx).1
    generalize hpp : pixAt ((x0, y0, x1, y1), l) x y = px at *
    have HPP := Lib.hid hpp
    obtain ⟨pr, pg, pb, pa⟩ := px
    obtain ⟨bb, o, rfl, hcell⟩ := h (fun e => by rw [e] at hpx; simp at hpx)
    obtain ⟨e0, e1, e2, e3⟩ := pix_cells hcell hpx
    dsimp only at e0 e1 e2 e3
    clear hh hpx hcell hk hpp
    go_wp2_with fail
    apply wp_region_par' 9 (by kernel_rfl) (by kernel_rfl) rfl
    simp only [List.take_succ_cons, List.take_zero, List.drop_succ_cons, List.drop_zero]
    generalize hW : World.drew _ = W
    have hEW : Ext w1 W := by rw [← hW]; exact Ext.drew _
    replace b3 := b3.ext hEW
    replace b6 := b6.ext hEW
    replace hE := hE.trans hEW
    clear hW hEW
    have k3 := b3.lcell
    replace e0 := fun z : Later W => z.cell (hE.cell e0)
    replace e1 := fun z : Later W => z.cell (hE.cell e1)
    replace e2 := fun z : Later W => z.cell (hE.cell e2)
    replace e3 := fun z : Later W => z.cell (hE.cell e3)
    iterate 9
      refine parW_step rfl (fun K hK => ?_)
      apply Exists.intro
      refine ⟨fun z => ?_, ?_⟩
      focus
        go_simp
        first
          | rfl
          | with_reducible exact calls_val (HP.out _)
      go_simp
      refine hK _ ?_
      clear hK K
    refine parW_end (fun z => ?_)
    replace hE := hE.later z
    replace b6 := b6.later z
    generalize z.val = Z at *
    clear k3 e0 e1 e2 e3 z
    have c6 := b6.cell
    have f6 := b6.frozen
    go_wp2
    exact bodyPost_ret (v := pxV (pr, pg, pb, pa)) (by simp [results, Try.results73, go_sem, pxV, c6, f6]) rfl ⟨by rw [HPP.out], hE.set4 (by omega) _ _ _ _⟩
set_option maxRecDepth 100000 in
set_option maxHeartbeats 1600000 in
theorem rCrop_any (x0 y0 x1 y1 p0 p1 p2 p3 : Int) (A : Option Addr) (c n : Nat) (l : List P4) (w : World) (hn : l.length = n) (hnc : n ≤ c) (hb : n ≤ 17592186044416) (h : pixE.At w A l) (hok : bmOk ((x0, y0, x1, y1), l) = true) :
    Calls Try.prog 49 #[.agg #[.int .i64 x0, .int .i64 y0, .int .i64 x1, .int .i64 y1, .slice A n c], .agg #[.int .i64 p0, .int .i64 p1, .int .i64 p2, .int .i64 p3]] w fun e w' =>
      ∃ v, e = .returned (.tuple #[.agg #[.int .i64 (interS (x0, y0, x1, y1) (p0, p1, p2, p3)).1, .int .i64 (interS (x0, y0, x1, y1) (p0, p1, p2, p3)).2.1, .int .i64 (interS (x0, y0, x1, y1) (p0, p1, p2, p3)).2.2.1, .int .i64 (interS (x0, y0, x1, y1) (p0, p1, p2, p3)).2.2.2, v], .int .i64 0]) ∧ Ext w w' ∧
        pixE.Own w' w.heap.size v (cropS ((x0, y0, x1, y1), l) (p0, p1, p2, p3)).2 := by
  have HV := Lib.hid (fun W (k : Ext w W) => rBmValid_any x0 y0 x1 y1 A c n l W hn hb (h.ext k))
  have HI := Lib.hid (fun W => rInter_any x0 y0 x1 y1 p0 p1 p2 p3 W)
  have HPX := Lib.hid (fun x y W (k : Ext w W) => pixelAt_any x0 y0 x1 y1 A c n l x y W hn (h.ext k) hok)
  have HQ := Lib.hid (show (cropS ((x0, y0, x1, y1), l) (p0, p1, p2, p3)).2 = (coordsR (interS (x0, y0, x1, y1) (p0, p1, p2, p3))).map fun p => pixAt ((x0, y0, x1, y1), l) p.1 p.2 from rfl)
  have hcan := interS_canon (x0, y0, x1, y1) (p0, p1, p2, p3)
  have hci := canon_in (interS (x0, y0, x1, y1) (p0, p1, p2, p3))
  rw [hcan] at hci
  obtain ⟨i1, i2, i3, i4, i5, i6⟩ := hci
  replace i1 := inR_bd i1
  replace i2 := inR_bd i2
  replace i3 := inR_bd i3
  replace i4 := inR_bd i4
  rw [hok] at HV
  have HN := Lib.hid hn
  clear hok
  generalize interS (x0, y0, x1, y1) (p0, p1, p2, p3) = qq at *
  obtain ⟨q0, q1, q2, q3⟩ := qq
  unfold rectV at HI
  dsimp only at HI i1 i2 i3 i4 i5 i6
  go_enter Try.func49, Try.ntmps49
  have b2 : Box (((w.alloc (.cells #[.int .i64 x0, .int .i64 y0, .int .i64 x1, .int .i64 y1, .slice A n c] 34)).alloc (.cells #[.int .i64 p0, .int .i64 p1, .int .i64 p2, .int .i64 p3] 23)).alloc (.cells #[.int .i64 0, .int .i64 0, .int .i64 0, .int .i64 0, .slice none 0 0] 34)) w.heap.size 34 #[.int .i64 x0, .int .i64 y0, .int .i64 x1, .int .i64 y1, .slice A n c] := ((Box.new _ _ _).alloc _).alloc _
  have b3 : Box (((w.alloc (.cells #[.int .i64 x0, .int .i64 y0, .int .i64 x1, .int .i64 y1, .slice A n c] 34)).alloc (.cells #[.int .i64 p0, .int .i64 p1, .int .i64 p2, .int .i64 p3] 23)).alloc (.cells #[.int .i64 0, .int .i64 0, .int .i64 0, .int .i64 0, .slice none 0 0] 34)) (w.heap.size + 1) 23 #[.int .i64 p0, .int .i64 p1, .int .i64 p2, .int .i64 p3] := Box.at1.alloc _
  have b4 : Box (((w.alloc (.cells #[.int .i64 x0, .int .i64 y0, .int .i64 x1, .int .i64 y1, .slice A n c] 34)).alloc (.cells #[.int .i64 p0, .int .i64 p1, .int .i64 p2, .int .i64 p3] 23)).alloc (.cells #[.int .i64 0, .int .i64 0, .int .i64 0, .int .i64 0, .slice none 0 0] 34)) (w.heap.size + 1 + 1) 34 #[.int .i64 0, .int .i64 0, .int .i64 0, .int .i64 0, .slice none 0 0] := Box.at2
  have hE := ((Ext.alloc w (.cells #[.int .i64 x0, .int .i64 y0, .int .i64 x1, .int .i64 y1, .slice A n c] 34)).trans (Ext.alloc _ (.cells #[.int .i64 p0, .int .i64 p1, .int .i64 p2, .int .i64 p3] 23))).trans (Ext.alloc _ (.cells #[.int .i64 0, .int .i64 0, .int .i64 0, .int .i64 0, .slice none 0 0] 34))
  go_wp2_with fail
  refine (HV.out _ hE).mono ?_
  rintro e w1 ⟨rfl, hE1⟩
  replace b2 := b2.ext hE1
  replace b3 := b3.ext hE1
  replace b4 := b4.ext hE1
  replace hE := hE.trans hE1
  clear hE1 HV
  have c2 := b2.cell
  have c3 := b3.cell
  go_wp2_with fail
  refine (HI.out _).mono ?_
  rintro e w2 ⟨rfl, hE1⟩
  replace b2 := b2.ext hE1
  replace b4 := b4.ext hE1
  replace hE := hE.trans hE1
  clear hE1 HI c2 c3 b3
  have hs4 := b4.lt
  go_wp2_with fail
  generalize hW : w2.alloc _ = W
  have b6 : Box W w2.heap.size 34 #[.int .i64 q0, .int .i64 q1, .int .i64 q2, .int .i64 q3, .slice none 0 0] := by rw [← hW]; exact Box.new w2 _ _
  replace b2 : Box W w.heap.size 34 #[.int .i64 x0, .int .i64 y0, .int .i64 x1, .int .i64 y1, .slice A n c] := by rw [← hW]; exact b2.alloc _
  replace b4 : Box W (w.heap.size + 1 + 1) 34 #[.int .i64 0, .int .i64 0, .int .i64 0, .int .i64 0, .slice none 0 0] := by rw [← hW]; exact b4.alloc _
  replace hE : Ext w W := by rw [← hW]; exact hE.trans (Ext.alloc _ _)
  clear hW
  have hs6 := b6.lt
  generalize w2.heap.size = B6 at *
  have hqn : ((q2 - q0).toNat : Int) = q2 - q0 := by omega
  generalize hWD : (q2 - q0).toNat = WD at *
  generalize hHT : (q3 - q1).toNat = HT at *
  have HCO := Lib.hid (show coordsR (q0, q1, q2, q3) = gridXY q0 q1 WD HT from by rw [← hWD, ← hHT]; rfl)
  have hWD2 : WD ≤ 8192 := by omega
  have hHT2 : HT ≤ 8192 := by omega
  have hwh : HT * WD ≤ 8192 * 8192 := Nat.mul_le_mul hHT2 hWD2
  have HLEN := Lib.hid (show ∀ m, ((gridXY q0 q1 WD HT).take m).length ≤ 67108864 from fun m => by rw [List.length_take, gridXY_length]; omega)
  clear hcan
  have hown0 : pixE.Own W (B6 + 1) (.slice none 0 0) (((gridXY q0 q1 WD HT).take (0 * WD)).map fun p => pixAt ((x0, y0, x1, y1), l) p.1 p.2) := by rw [Nat.zero_mul]; exact EL.Own.nil _ _
  go_loopw [7] (fun y wr => ∃ (jy : Nat) (v : Value), jy ≤ HT ∧ y = .int .i64 (q1 + jy) ∧ Ext w wr ∧ Box wr w.heap.size 34 #[.int .i64 x0, .int .i64 y0, .int .i64 x1, .int .i64 y1, .slice A n c] ∧ Box wr (w.heap.size + 1 + 1) 34 #[.int .i64 0, .int .i64 0, .int .i64 0, .int .i64 0, .slice none 0 0] ∧
      Box wr B6 34 #[.int .i64 q0, .int .i64 q1, .int .i64 q2, .int .i64 q3, v] ∧ pixE.Own wr (B6 + 1) v (((gridXY q0 q1 WD HT).take (jy * WD)).map fun p => pixAt ((x0, y0, x1, y1), l) p.1 p.2)) (fun y _ => HT - (intOf y - q1).toNat)
  case atStart => exact ⟨0, _, Nat.zero_le _, by simp, hE, b2, b4, b6, hown0⟩
  case round =>
    clear hown0 b2 b4 b6 hE
    obtain ⟨jy, v, hjy, rfl, hE, b2, b4, b6, hown⟩ := hrel
    have c6 := b6.cell
    by_cases hlty : jy < HT
    · have dy : (q1 + (jy : Int) < q3) = True := eq_true (by omega)
      have hown' : pixE.Own wr (B6 + 1) v (((gridXY q0 q1 WD HT).take (jy * WD + 0)).map fun p => pixAt ((x0, y0, x1, y1), l) p.1 p.2) := hown
      clear hown
      go_wp2_with fail
      clear c6 dy
      go_loopw [8] (fun x wr => ∃ (jx : Nat) (v : Value), jx ≤ WD ∧ x = .int .i64 (q0 + jx) ∧ Ext w wr ∧ Box wr w.heap.size 34 #[.int .i64 x0, .int .i64 y0, .int .i64 x1, .int .i64 y1, .slice A n c] ∧ Box wr (w.heap.size + 1 + 1) 34 #[.int .i64 0, .int .i64 0, .int .i64 0, .int .i64 0, .slice none 0 0] ∧
          Box wr B6 34 #[.int .i64 q0, .int .i64 q1, .int .i64 q2, .int .i64 q3, v] ∧ pixE.Own wr (B6 + 1) v (((gridXY q0 q1 WD HT).take (jy * WD + jx)).map fun p => pixAt ((x0, y0, x1, y1), l) p.1 p.2)) (fun x _ => WD - (intOf x - q0).toNat)
      case atStart => exact ⟨0, _, Nat.zero_le _, by simp, hE, b2, b4, b6, hown'⟩
      case round =>
        clear hown' b2 b4 b6 hE
        obtain ⟨jx, v, hjx, rfl, hE, b2, b4, b6, hown⟩ := hrel
        have c6 := b6.cell
        by_cases hltx : jx < WD
        · have dx : (q0 + (jx : Int) < q2) = True := eq_true (by omega)
          have HP := Lib.hid (fun W k => HPX.out (q0 + (jx : Int)) (q1 + (jy : Int)) W k)
          have hcp : (gridXY q0 q1 WD HT)[jy * WD + jx]? = some (q0 + (jx : Int), q1 + (jy : Int)) := gridXY_get hltx hlty
          have HS1 := Lib.hid (show (((gridXY q0 q1 WD HT).take (jy * WD + jx)).map fun p => pixAt ((x0, y0, x1, y1), l) p.1 p.2) ++ [pixAt ((x0, y0, x1, y1), l) (q0 + (jx : Int)) (q1 + (jy : Int))] = ((gridXY q0 q1 WD HT).take (jy * WD + (jx + 1))).map fun p => pixAt ((x0, y0, x1, y1), l) p.1 p.2 from by
            rw [← Nat.add_assoc, List.take_add_one, hcp, List.map_append]; rfl)
          have hlen := HLEN.out (jy * WD + jx)
          have HLL := Lib.hid (show (((gridXY q0 q1 WD HT).take (jy * WD + jx)).map fun p => pixAt ((x0, y0, x1, y1), l) p.1 p.2).length + 1 ≤ 1000000000 from by rw [List.length_map]; omega)
          clear hcp hlen
          generalize pixAt ((x0, y0, x1, y1), l) (q0 + (jx : Int)) (q1 + (jy : Int)) = px at *
          generalize (((gridXY q0 q1 WD HT).take (jy * WD + jx)).map fun p => pixAt ((x0, y0, x1, y1), l) p.1 p.2) = old at *
          obtain ⟨pr, pg, pb, pa⟩ := px
          unfold pxV at HP
          dsimp only at HP
          go_wp2_with fail
          clear c6 dx
          apply wp_region_par' 7 (by kernel_rfl) (by kernel_rfl) rfl
          simp only [List.take_succ_cons, List.take_zero, List.drop_succ_cons, List.drop_zero]
          generalize hW : World.drew _ = W
          have hEW : Ext wr W := by rw [← hW]; exact Ext.drew _
          replace b2 := b2.ext hEW
          replace b4 := b4.ext hEW
          replace b6 := b6.ext hEW
          replace hE := hE.trans hEW
          replace hown := hown.ext hEW
          clear hW hEW
          have k2 := b2.lcell
          have k6 := b6.lcell
          iterate 6
            refine parW_step rfl (fun K hK => ?_)
            apply Exists.intro
            refine ⟨fun z => ?_, ?_⟩
            focus
              go_simp
              first
                | rfl
                | with_reducible exact calls_val (HP.out _ (hE.later z))
            go_simp
            refine hK _ ?_
            clear hK K
          refine parW_newRow (t := 41) (n := 1) (cs := #[.int .u8 pr, .int .u8 pg, .int .u8 pb, .int .u8 pa]) rfl rfl rfl (by simp) (fun w1 => by kernel_rfl) ?_
          refine parW_fin (fun z => ?_)
          rintro v1 ⟨b0, rfl, hb0, hbx⟩ hp
          clear hp
          replace b2 := b2.later z
          replace b4 := b4.later z
          replace b6 := b6.later z
          replace hE := hE.later z
          replace hown := hown.ext z.prop
          generalize z.val = Z at *
          clear k2 k6 z
          have hs6' := b6.lt
          have hne6 : v.ownBlock ≠ some B6 := hown.ne (Nat.lt_succ_self _)
          have hne2 : v.ownBlock ≠ some w.heap.size := hown.ne (by omega)
          have hne4 : v.ownBlock ≠ some (w.heap.size + 1 + 1) := hown.ne (by omega)
          simp only [Act.put, List.setIfInBounds_toArray, List.set_cons_succ, List.set_cons_zero]
          go_wp2_with (at_builtin; refine EL.wpApp pixE rfl _ _ rfl (B6 + 1) v _ old [(pr, pg, pb, pa)] rfl rfl hown (pxE_one hbx) HLL.out (by omega) ?_; intro v1 W1 own1 gr1 _; obtain ⟨A1, cp1, rfl, _, _⟩ := own1.len; have f6 := (boxGrown b6 gr1 hne6).frozen; have k6 := (boxGrown b6 gr1 hne6).cell)
          have he : (old ++ [(pr, pg, pb, pa)]).length = old.length + 1 := by simp
          have hg1 := gr1.size
          have n1 := (growExt hE hown (by omega) gr1).setNew (i := 4) (show w.heap.size ≤ B6 by omega) (.slice A1 (old.length + 1) cp1)
          have n2 := (boxGrown b2 gr1 hne2).far (p := ⟨B6, 4, none⟩) (show w.heap.size ≠ B6 by omega) (.slice A1 (old.length + 1) cp1)
          have n3 := (boxGrown b4 gr1 hne4).far (p := ⟨B6, 4, none⟩) (show w.heap.size + 1 + 1 ≠ B6 by omega) (.slice A1 (old.length + 1) cp1)
          have n4 := (boxGrown b6 gr1 hne6).set 4 (.slice A1 (old.length + 1) cp1)
          have n5 := own1.but ((But.refl B6 W1).set 4 (.slice A1 (old.length + 1) cp1)) (Nat.lt_succ_self _)
          rw [he, HS1.out] at n5
          clear own1 gr1 hg1 he
          go_roundw
          case rel => exact ⟨jx + 1, .slice A1 (old.length + 1) cp1, by omega, by go_num, n1, n2, n3, by simpa using n4, n5⟩
          case measure => simp [intOf]; omega
        · have hx : jx = WD := by omega
          subst hx
          have dx : (q0 + (jx : Int) < q2) = False := eq_false (by omega)
          have em : jy * jx + jx = (jy + 1) * jx := by rw [Nat.add_mul, Nat.one_mul]
          rw [em] at hown
          clear em
          go_wp2_with fail
          go_roundw
          case rel => exact ⟨jy + 1, v, by omega, by go_num, hE, b2, b4, b6, hown⟩
          case measure => simp [intOf]; omega
    · have hy : jy = HT := by omega
      subst hy
      have HRR := Lib.hid (show (cropS ((x0, y0, x1, y1), l) (p0, p1, p2, p3)).2 = ((gridXY q0 q1 WD jy).take (jy * WD)).map fun p => pixAt ((x0, y0, x1, y1), l) p.1 p.2 from by
        rw [HQ.out, HCO.out, List.take_of_length_le (by rw [gridXY_length]; exact Nat.le_refl _)])
      have dy : (q1 + (jy : Int) < q3) = False := eq_false (by omega)
      have c4 := b4.cell
      have f4 := b4.frozen
      clear b2
      obtain ⟨A1, n1, cp1, rfl⟩ : ∃ A1 n1 cp1, v = .slice A1 n1 cp1 := by obtain ⟨A1, cp1, e, _⟩ := hown.len; exact ⟨_, _, _, e⟩
      go_wp2
      exact bodyPost_ret (v := .tuple #[.agg #[.int .i64 q0, .int .i64 q1, .int .i64 q2, .int .i64 q3, .slice A1 n1 cp1], .int .i64 0]) (by simp [results, Try.results49, go_sem, List.size_toArray, c4, f4]) rfl ⟨_, rfl, hE.set5 (by omega) _ _ _ _ _, by rw [HRR.out]; exact (hown.but ((((((But.refl (w.heap.size + 1 + 1) wr).set 0 _).set 1 _).set 2 _).set 3 _).set 4 _) (by omega)).lower (by omega)⟩
end Go.Proofs.Ytefdheoalonbaaa
