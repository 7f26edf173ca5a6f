/- bitmap.Crop. -/
import Derived.Test.YtefdheoalonbaaaBmV
set_option linter.unusedVariables false
set_option linter.unusedSimpArgs false
namespace Go.Proofs.Ytefdheoalonbaaa
open Go.RowKit Go.Par

theorem _root_.Go.Par.Ext.set5 {w w1 : World} (h : Ext w w1) {b : Nat} (hb : w.heap.size ≤ b) {i j k l m : Nat} (u0 u1 u2 u3 u4 : Value) : Ext w (((((w1.setCell ⟨b, i, none⟩ u0).setCell ⟨b, j, none⟩ u1).setCell ⟨b, k, none⟩ u2).setCell ⟨b, l, none⟩ u3).setCell ⟨b, m, none⟩ u4) :=
  ((((h.setNew hb i u0).setNew hb j u1).setNew hb k u2).setNew hb l u3).setNew hb m u4
theorem _root_.Go.Par.Box.set5 {w : World} {b : Nat} {t : TypeId} {a0 a1 a2 a3 a4 : Value} (h : Box w b t #[a0, a1, a2, a3, a4]) (u0 u1 u2 u3 u4 : Value) : Box (((((w.setCell ⟨b, 0, none⟩ u0).setCell ⟨b, 1, none⟩ u1).setCell ⟨b, 2, none⟩ u2).setCell ⟨b, 3, none⟩ u3).setCell ⟨b, 4, none⟩ u4) b t #[u0, u1, u2, u3, u4] := by
  simpa using ((((h.set 0 u0).set 1 u1).set 2 u2).set 3 u3).set 4 u4
theorem _root_.Go.Par.Box.far5 {w : World} {b c : Nat} {t : TypeId} {cs : Array Value} (h : Box w b t cs) (hc : b ≠ c) (i j k l m : Nat) (u0 u1 u2 u3 u4 : Value) : Box (((((w.setCell ⟨c, i, none⟩ u0).setCell ⟨c, j, none⟩ u1).setCell ⟨c, k, none⟩ u2).setCell ⟨c, l, none⟩ u3).setCell ⟨c, m, none⟩ u4) b t cs :=
  ((((h.far (p := ⟨c, i, none⟩) hc u0).far (p := ⟨c, j, none⟩) hc u1).far (p := ⟨c, k, none⟩) hc u2).far (p := ⟨c, l, none⟩) hc u3).far (p := ⟨c, m, none⟩) hc u4
set_option maxHeartbeats 800000 in
theorem CropBad_any (x0 y0 x1 y1 p0 p1 p2 p3 : Int) (A : Option Addr) (c n : Nat) (l : List P4) (w : World) (hn : l.length = n) (hb : n ≤ 17592186044416) (h : pixE.At w A l) (hok : bmOk ((x0, y0, x1, y1), l) = false) :
    Calls Try.prog 47 #[.agg #[.int .i64 x0, .int .i64 y0, .int .i64 x1, .int .i64 y1, .slice A n c], .agg #[.int .i64 p0, .int .i64 p1, .int .i64 p2, .int .i64 p3]] w fun e w' => e = .returned (.tuple #[.agg #[.int .i64 0, .int .i64 0, .int .i64 0, .int .i64 0, .slice none 0 0], .int .i64 15]) ∧ Ext w w' := by
  have HV := Lib.hid (fun W (k : Ext w W) => BmValid_any x0 y0 x1 y1 A c n l W hn hb (h.ext k))
  rw [hok] at HV
  clear h hok
  go_enter Try.func47, Try.ntmps47
  have b4 : Box (((w.alloc (.cells #[.int .i64 x0, .int .i64 y0, .int .i64 x1, .int .i64 y1, .slice A n c] 34)).alloc (.cells #[.int .i64 p0, .int .i64 p1, .int .i64 p2, .int .i64 p3] 23)).alloc (.cells #[.int .i64 0, .int .i64 0, .int .i64 0, .int .i64 0, .slice none 0 0] 34)) (w.heap.size + 1 + 1) 34 #[.int .i64 0, .int .i64 0, .int .i64 0, .int .i64 0, .slice none 0 0] := Box.at2
  have hE := ((Ext.alloc w (.cells #[.int .i64 x0, .int .i64 y0, .int .i64 x1, .int .i64 y1, .slice A n c] 34)).trans (Ext.alloc _ (.cells #[.int .i64 p0, .int .i64 p1, .int .i64 p2, .int .i64 p3] 23))).trans (Ext.alloc _ (.cells #[.int .i64 0, .int .i64 0, .int .i64 0, .int .i64 0, .slice none 0 0] 34))
  go_wp2_with fail
  refine (HV.out _ hE).mono ?_
  rintro e w1 ⟨rfl, hE1⟩
  replace b4 := b4.ext hE1
  replace hE := hE.trans hE1
  clear hE1
  have c4 := b4.cell
  have f4 := b4.frozen
  go_wp2
  exact bodyPost_ret (v := .tuple #[.agg #[.int .i64 0, .int .i64 0, .int .i64 0, .int .i64 0, .slice none 0 0], .int .i64 15]) (by simp [results, Try.results47, go_sem, List.size_toArray, c4, f4]) rfl ⟨rfl, hE.set5 (by omega) _ _ _ _ _⟩
set_option maxHeartbeats 1600000 in
theorem Crop_any (x0 y0 x1 y1 p0 p1 p2 p3 : Int) (A : Option Addr) (c n : Nat) (l : List P4) (w : World) (hn : l.length = n) (hnc : n ≤ c) (hb : n ≤ 17592186044416) (h : pixE.At w A l) (hok : bmOk ((x0, y0, x1, y1), l) = true) :
    Calls Try.prog 47 #[.agg #[.int .i64 x0, .int .i64 y0, .int .i64 x1, .int .i64 y1, .slice A n c], .agg #[.int .i64 p0, .int .i64 p1, .int .i64 p2, .int .i64 p3]] w fun e w' =>
      ∃ v, e = .returned (.tuple #[.agg #[.int .i64 (interS (x0, y0, x1, y1) (p0, p1, p2, p3)).1, .int .i64 (interS (x0, y0, x1, y1) (p0, p1, p2, p3)).2.1, .int .i64 (interS (x0, y0, x1, y1) (p0, p1, p2, p3)).2.2.1, .int .i64 (interS (x0, y0, x1, y1) (p0, p1, p2, p3)).2.2.2, v], .int .i64 0]) ∧ Ext w w' ∧
        pixE.Own w' w.heap.size v (cropS ((x0, y0, x1, y1), l) (p0, p1, p2, p3)).2 := by
  have HV := Lib.hid (fun W (k : Ext w W) => BmValid_any x0 y0 x1 y1 A c n l W hn hb (h.ext k))
  have HI := Lib.hid (fun W => pInter_any x0 y0 x1 y1 p0 p1 p2 p3 W)
  have HR := Lib.hid (fun he y => row_slice (s := ((x0, y0, x1, y1), l)) hok (r := (p0, p1, p2, p3)) he (y := y))
  have HQ := Lib.hid (show (cropS ((x0, y0, x1, y1), l) (p0, p1, p2, p3)).2 = (coordsR (interS (x0, y0, x1, y1) (p0, p1, p2, p3))).map fun p => pixAt ((x0, y0, x1, y1), l) p.1 p.2 from rfl)
  have hcan := interS_canon (x0, y0, x1, y1) (p0, p1, p2, p3)
  have hci := canon_in (interS (x0, y0, x1, y1) (p0, p1, p2, p3))
  rw [hcan] at hci
  obtain ⟨i1, i2, i3, i4, i5, i6⟩ := hci
  replace i1 := inR_bd i1
  replace i2 := inR_bd i2
  replace i3 := inR_bd i3
  replace i4 := inR_bd i4
  rw [hok] at HV
  have HN := Lib.hid hn
  clear hok
  dsimp only at HR
  generalize interS (x0, y0, x1, y1) (p0, p1, p2, p3) = qq at *
  obtain ⟨q0, q1, q2, q3⟩ := qq
  unfold rectV at HI
  dsimp only at HI HR i1 i2 i3 i4 i5 i6
  go_enter Try.func47, Try.ntmps47
  have b2 : Box (((w.alloc (.cells #[.int .i64 x0, .int .i64 y0, .int .i64 x1, .int .i64 y1, .slice A n c] 34)).alloc (.cells #[.int .i64 p0, .int .i64 p1, .int .i64 p2, .int .i64 p3] 23)).alloc (.cells #[.int .i64 0, .int .i64 0, .int .i64 0, .int .i64 0, .slice none 0 0] 34)) w.heap.size 34 #[.int .i64 x0, .int .i64 y0, .int .i64 x1, .int .i64 y1, .slice A n c] := ((Box.new _ _ _).alloc _).alloc _
  have b3 : Box (((w.alloc (.cells #[.int .i64 x0, .int .i64 y0, .int .i64 x1, .int .i64 y1, .slice A n c] 34)).alloc (.cells #[.int .i64 p0, .int .i64 p1, .int .i64 p2, .int .i64 p3] 23)).alloc (.cells #[.int .i64 0, .int .i64 0, .int .i64 0, .int .i64 0, .slice none 0 0] 34)) (w.heap.size + 1) 23 #[.int .i64 p0, .int .i64 p1, .int .i64 p2, .int .i64 p3] := Box.at1.alloc _
  have b4 : Box (((w.alloc (.cells #[.int .i64 x0, .int .i64 y0, .int .i64 x1, .int .i64 y1, .slice A n c] 34)).alloc (.cells #[.int .i64 p0, .int .i64 p1, .int .i64 p2, .int .i64 p3] 23)).alloc (.cells #[.int .i64 0, .int .i64 0, .int .i64 0, .int .i64 0, .slice none 0 0] 34)) (w.heap.size + 1 + 1) 34 #[.int .i64 0, .int .i64 0, .int .i64 0, .int .i64 0, .slice none 0 0] := Box.at2
  have hE := ((Ext.alloc w (.cells #[.int .i64 x0, .int .i64 y0, .int .i64 x1, .int .i64 y1, .slice A n c] 34)).trans (Ext.alloc _ (.cells #[.int .i64 p0, .int .i64 p1, .int .i64 p2, .int .i64 p3] 23))).trans (Ext.alloc _ (.cells #[.int .i64 0, .int .i64 0, .int .i64 0, .int .i64 0, .slice none 0 0] 34))
  go_wp2_with fail
  refine (HV.out _ hE).mono ?_
  rintro e w1 ⟨rfl, hE1⟩
  replace b2 := b2.ext hE1
  replace b3 := b3.ext hE1
  replace b4 := b4.ext hE1
  replace hE := hE.trans hE1
  clear hE1 HV
  have c2 := b2.cell
  have c3 := b3.cell
  go_wp2_with fail
  refine (HI.out _).mono ?_
  rintro e w2 ⟨rfl, hE1⟩
  replace b2 := b2.ext hE1
  replace b4 := b4.ext hE1
  replace hE := hE.trans hE1
  clear hE1 HI c2 c3 b3
  have hs4 := b4.lt
  have qw : IntKind.i64.wrap (q2 - q0) = q2 - q0 := IntWalk.i64_in _ (by omega)
  go_wp2_with fail
  generalize hW : w2.alloc _ = W
  have b6 : Box W w2.heap.size 34 #[.int .i64 q0, .int .i64 q1, .int .i64 q2, .int .i64 q3, .slice none 0 0] := by rw [← hW]; exact Box.new w2 _ _
  replace b2 : Box W w.heap.size 34 #[.int .i64 x0, .int .i64 y0, .int .i64 x1, .int .i64 y1, .slice A n c] := by rw [← hW]; exact b2.alloc _
  replace b4 : Box W (w.heap.size + 1 + 1) 34 #[.int .i64 0, .int .i64 0, .int .i64 0, .int .i64 0, .slice none 0 0] := by rw [← hW]; exact b4.alloc _
  replace hE : Ext w W := by rw [← hW]; exact hE.trans (Ext.alloc _ _)
  clear hW
  have hs6 := b6.lt
  generalize w2.heap.size = B6 at *
  have hqn : ((q2 - q0).toNat : Int) = q2 - q0 := by omega
  generalize hWD : (q2 - q0).toNat = WD at *
  generalize hHT : (q3 - q1).toNat = HT at *
  have HCO := Lib.hid (show coordsR (q0, q1, q2, q3) = gridXY q0 q1 WD HT from by rw [← hWD, ← hHT]; rfl)
  have HEM := Lib.hid (show q1 < q3 → rectEmptyS (q0, q1, q2, q3) = false ∧ q0 < q2 from fun hlt => by
    have he : rectEmptyS (q0, q1, q2, q3) = false := by
      cases he : rectEmptyS (q0, q1, q2, q3)
      · rfl
      · have : rectCanonS (q0, q1, q2, q3) = (0, 0, 0, 0) := by unfold rectCanonS; rw [he]; rfl
        rw [hcan] at this
        simp only [Prod.mk.injEq] at this
        omega
    obtain ⟨b1, b2, b3, b4, b5, b6⟩ := empty_false he
    exact ⟨he, b5⟩)
  have hg0 : gridXY q0 q1 WD 0 = [] := rfl
  go_loopw [8, 9] (fun y i wr => ∃ (j : Nat) (v : Value), j ≤ HT ∧ y = .int .i64 (q1 + j) ∧ Ext w wr ∧ Box wr w.heap.size 34 #[.int .i64 x0, .int .i64 y0, .int .i64 x1, .int .i64 y1, .slice A n c] ∧ Box wr (w.heap.size + 1 + 1) 34 #[.int .i64 0, .int .i64 0, .int .i64 0, .int .i64 0, .slice none 0 0] ∧
      Box wr B6 34 #[.int .i64 q0, .int .i64 q1, .int .i64 q2, .int .i64 q3, v] ∧ B6 < wr.heap.size ∧ pixE.Own wr (B6 + 1) v ((gridXY q0 q1 WD j).map fun p => pixAt ((x0, y0, x1, y1), l) p.1 p.2)) (fun y i _ => HT - (intOf y - q1).toNat)
  case atStart => exact ⟨0, _, Nat.zero_le _, by simp, hE, b2, b4, b6, hs6, by rw [hg0]; exact EL.Own.nil _ _⟩
  case round =>
    obtain ⟨j, v, hj, rfl, hE, b2, b4, b6, hs6, hown⟩ := hrel
    by_cases hlt : j < HT
    · obtain ⟨hem, hq02⟩ := HEM.out (by omega)
      obtain ⟨i, hpi, hil, hrow⟩ := HR.out hem (q1 + j) (by omega) (by omega)
      have d1 : q1 + (j : Int) < q3 := by omega
      have HP := Lib.hid (fun W => pPixIx_any x0 y0 x1 y1 q0 (q1 + j) W)
      rw [hpi] at HP
      have c2 := b2.cell
      have c6 := b6.cell
      have hn65 : n ≤ 65536 + 17592186044416 := by omega
      go_wp2_with fail
      refine (HP.out _).mono ?_
      rintro e w3 ⟨rfl, hE1⟩
      replace hE := hE.trans hE1
      replace b2 := b2.ext hE1
      replace b4 := b4.ext hE1
      replace b6 := b6.ext hE1
      replace hown := hown.ext hE1
      replace hs6 := Nat.lt_of_lt_of_le hs6 hE1.size
      clear hE1 c2 c6
      go_wp2_with fail
      apply wp_region_par' 12 (by kernel_rfl) (by kernel_rfl) rfl
      simp only [List.take_succ_cons, List.take_zero, List.drop_succ_cons, List.drop_zero]
      generalize hW : World.drew _ = W
      replace hE : Ext w W := by rw [← hW]; exact hE.trans (Ext.drew _)
      replace b2 : Box W w.heap.size 34 #[.int .i64 x0, .int .i64 y0, .int .i64 x1, .int .i64 y1, .slice A n c] := by rw [← hW]; exact b2.drew
      replace b4 : Box W (w.heap.size + 1 + 1) 34 #[.int .i64 0, .int .i64 0, .int .i64 0, .int .i64 0, .slice none 0 0] := by rw [← hW]; exact b4.drew
      replace b6 : Box W B6 34 #[.int .i64 q0, .int .i64 q1, .int .i64 q2, .int .i64 q3, v] := by rw [← hW]; exact b6.drew
      replace hown := hown.ext (show Ext w3 W from by rw [← hW]; exact Ext.drew _)
      replace hs6 : B6 < W.heap.size := b6.lt
      clear hW
      have k2 := b2.lcell
      have k6 := b6.lcell
      obtain ⟨bb, o, rfl, hcell⟩ := h (fun e => by rw [e] at hil; simp at hil; omega)
      have qi : IntKind.i64.wrap ((i : Int) + (q2 - q0)) = (i : Int) + (q2 - q0) := IntWalk.i64_in _ (by omega)
      have s1 : (i : Int) + (q2 - q0) ≤ (c : Int) := by omega
      have s6 : 0 ≤ (i : Int) + (q2 - q0) := by omega
      have s3 : ((i : Int) + (q2 - q0)).toNat = i + WD := by omega
      have s5 : ¬ WD = 0 := by omega
      have hsub : pixE.At w (some ⟨bb, o + i * 4, none⟩) ((rowXY q0 WD (q1 + j)).map fun p => pixAt ((x0, y0, x1, y1), l) p.1 p.2) := by
        rw [← hrow]; exact (h.drop i).take WD
      have hlr : ((rowXY q0 WD (q1 + j)).map fun p => pixAt ((x0, y0, x1, y1), l) p.1 p.2).length = WD := by rw [List.length_map, rowXY_length]
      have hln : ((gridXY q0 q1 WD j).map fun p => pixAt ((x0, y0, x1, y1), l) p.1 p.2).length = j * WD := by rw [List.length_map, gridXY_length]
      have hjw : j * WD ≤ 8192 * 8192 := Nat.mul_le_mul (by omega) (by omega)
      have hG := gridXY_succ q0 q1 WD j
      have HG := Lib.hid (show ((gridXY q0 q1 WD j).map fun p => pixAt ((x0, y0, x1, y1), l) p.1 p.2) ++ ((rowXY q0 WD (q1 + j)).map fun p => pixAt ((x0, y0, x1, y1), l) p.1 p.2) = (gridXY q0 q1 WD (j + 1)).map fun p => pixAt ((x0, y0, x1, y1), l) p.1 p.2 from by rw [hG, List.map_append])
      clear hG hrow hcell hpi
      have HLN := Lib.hid (show ((gridXY q0 q1 WD j).map fun p => pixAt ((x0, y0, x1, y1), l) p.1 p.2).length + ((rowXY q0 WD (q1 + j)).map fun p => pixAt ((x0, y0, x1, y1), l) p.1 p.2).length ≤ 1000000000 from by rw [hln, hlr]; omega)
      clear hln
      generalize hnew : ((gridXY q0 q1 WD (j + 1)).map fun p => pixAt ((x0, y0, x1, y1), l) p.1 p.2) = new at *
      generalize hold : ((gridXY q0 q1 WD j).map fun p => pixAt ((x0, y0, x1, y1), l) p.1 p.2) = old at *
      generalize hrw : ((rowXY q0 WD (q1 + j)).map fun p => pixAt ((x0, y0, x1, y1), l) p.1 p.2) = row at *
      clear hold hrw
      have HNEW := Lib.hid hnew
      clear hnew
      iterate 12
        refine parW_step rfl (fun K hK => ?_)
        apply Exists.intro
        refine ⟨fun z => ?_, ?_⟩
        focus
          go_simp
          first
            | rfl
            | fail
        go_simp
        refine hK _ ?_
        clear hK K
      refine parW_end (fun z => ?_)
      replace hE := hE.later z
      replace b2 := b2.later z
      replace b4 := b4.later z
      replace b6 := b6.later z
      replace hown := hown.ext z.prop
      replace hs6 : B6 < z.val.heap.size := b6.lt
      generalize z.val = Z at *
      clear k2 k6 z s1 s3 s5 s6 qi
      have hR : pixE.Row Z (.slice (some ⟨bb, o + i * 4, none⟩) WD WD) row := ⟨_, _, by rw [hlr], by omega, by omega, hsub.ext hE⟩
      have hne6 : v.ownBlock ≠ some B6 := hown.ne (Nat.lt_succ_self _)
      have hne2 : v.ownBlock ≠ some w.heap.size := hown.ne (by omega)
      have hne4 : v.ownBlock ≠ some (w.heap.size + 1 + 1) := hown.ne (by omega)
      go_wp2_with (at_builtin; refine EL.wpApp pixE rfl _ _ rfl (B6 + 1) v _ old row rfl rfl hown hR HLN.out (by omega) ?_; intro v1 W1 own1 gr1 _; obtain ⟨A1, cp1, rfl, _, _⟩ := own1.len; have f6 := (boxGrown b6 gr1 hne6).frozen; have k6 := (boxGrown b6 gr1 hne6).cell)
      have hg1 := gr1.size
      go_roundw
      case rel => exact ⟨j + 1, .slice A1 (old.length + WD) cp1, by omega, by go_num, (growExt hE hown (by omega) gr1).setNew (by omega) _ _, (boxGrown b2 gr1 hne2).far (by show w.heap.size ≠ B6; omega) _, (boxGrown b4 gr1 hne4).far (by show w.heap.size + 1 + 1 ≠ B6; omega) _,
        by simpa [hlr] using (boxGrown b6 gr1 hne6).set 4 (.slice A1 (old ++ row).length cp1), by rw [size_set]; omega, by rw [HNEW.out, ← HG.out, ← hlr, ← List.length_append]; exact own1.but ((But.refl B6 W1).set 4 _) (Nat.lt_succ_self _)⟩
      case measure => simp [intOf]; omega
    · have hjj : j = HT := by omega
      subst hjj
      have HRR := Lib.hid (show (cropS ((x0, y0, x1, y1), l) (p0, p1, p2, p3)).2 = (gridXY q0 q1 WD j).map fun p => pixAt ((x0, y0, x1, y1), l) p.1 p.2 from by rw [HQ.out, HCO.out])
      have d1 : (q1 + (j : Int) < q3) = False := eq_false (by omega)
      have c6 := b6.cell
      have c4 := b4.cell
      have f4 := b4.frozen
      clear b2
      obtain ⟨A1, n1, cp1, rfl⟩ : ∃ A1 n1 cp1, v = .slice A1 n1 cp1 := by obtain ⟨A1, cp1, e, _⟩ := hown.len; exact ⟨_, _, _, e⟩
      go_wp2
      exact bodyPost_ret (v := .tuple #[.agg #[.int .i64 q0, .int .i64 q1, .int .i64 q2, .int .i64 q3, .slice A1 n1 cp1], .int .i64 0]) (by simp [results, Try.results47, go_sem, List.size_toArray, c4, f4]) rfl ⟨_, rfl, hE.set5 (by omega) _ _ _ _ _, by rw [HRR.out]; exact (hown.but ((((((But.refl (w.heap.size + 1 + 1) wr).set 0 _).set 1 _).set 2 _).set 3 _).set 4 _) (by omega)).lower (by omega)⟩
end Go.Proofs.Ytefdheoalonbaaa
