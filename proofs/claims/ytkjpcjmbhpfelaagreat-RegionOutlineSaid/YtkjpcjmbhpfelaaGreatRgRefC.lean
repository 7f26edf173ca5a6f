/- Outline of the reference: corners, begun. -/
import Derived.Test.YtkjpcjmbhpfelaaGreatRgRefB
set_option linter.unusedVariables false
set_option linter.unusedSimpArgs false
namespace Go.Proofs.YtkjpcjmbhpfelaaGreat
open Go.RowKit Go.Par Go.Reg Go.Maps

theorem ptc_cell {w : World} {b o : Nat} {l : List (Int × Int)} (h : ptE.At w (some ⟨b, o, none⟩) l) {k : Nat} {p : Int × Int} (hk : l[k]? = some p) : w.cell? ⟨b, o + k * 2, none⟩ = some (.int .i64 p.1) ∧ w.cell? ⟨b, o + k * 2 + 1, none⟩ = some (.int .i64 p.2) :=
  ⟨h.cellAt (j := 0) hk rfl, h.cellAt (j := 1) hk rfl⟩
set_option maxRecDepth 100000 in
set_option maxHeartbeats 6400000 in
theorem corners_any (c : List Edg) (A : Option Addr) (n cc : Nat) (w : World) (hn : c.length = n) (hb : n ≤ 300000000) (hA : ptE.At w A (c.map fun e => scl (startC e)))
    (hcr : ∀ (k : Nat) (a e b : Edg), k < n → c[(k + n - 1) % n]? = some a → c[k]? = some e → c[(k + 1) % n]? = some b → ((decide (a.1 = e.1) != decide (b.1 = e.1)) = true ↔ a.2.2.2.2 ≠ e.2.2.2.2)) :
    Calls Tryz.prog 26 #[.slice A n cc] w fun e w' => ∃ v, e = .returned v ∧ Ext w w' ∧ ptE.Own w' w.heap.size v ((corn (lastD c) c).map scl) := by
  have HN := Lib.hid hn
  have HCR := Lib.hid hcr
  clear hn hcr
  go_enter Tryz.func26, Tryz.ntmps26
  go_wp2_with fail
  go_loopw [3, 5] (fun s i wr => ∃ k : Nat, k ≤ n ∧ i = .int .i64 k ∧ Ext w wr ∧ ptE.Own wr w.heap.size s ((corn (lastD c) (c.take k)).map scl)) (fun _ i _ => n - (intOf i).toNat)
  case atStart => exact ⟨0, Nat.zero_le _, rfl, Ext.alloc _ _, EL.Own.made (E := ptE) w⟩
  case round =>
    obtain ⟨k, hk, rfl, hE, hown⟩ := hrel
    by_cases hlt : k < n
    · have dk : ((k : Int) < (n : Int)) = True := eq_true (by omega)
      obtain ⟨i, hi⟩ : ∃ i, i = (k + n - 1) % n := ⟨_, rfl⟩
      have hin : i < n := by rw [hi]; exact Nat.mod_lt _ (by omega)
      obtain ⟨j, hj⟩ : ∃ j, j = (k + 1) % n := ⟨_, rfl⟩
      have hjn : j < n := by rw [hj]; exact Nat.mod_lt _ (by omega)
      obtain ⟨e, he⟩ : ∃ q, c[k]? = some q := ⟨_, List.getElem?_eq_getElem (by rw [HN.out]; exact hlt)⟩
      obtain ⟨a, ha⟩ : ∃ q, c[i]? = some q := ⟨_, List.getElem?_eq_getElem (by rw [HN.out]; exact hin)⟩
      obtain ⟨b, hbq⟩ : ∃ q, c[j]? = some q := ⟨_, List.getElem?_eq_getElem (by rw [HN.out]; exact hjn)⟩
      have HC1 := Lib.hid (HCR.out k a e b hlt (by rw [← hi]; exact ha) he (by rw [← hj]; exact hbq))
      have HCS := Lib.hid (corn_step (c := c) (k := k) (a := a) (e := e) (by rw [HN.out]; exact hlt) (by rw [HN.out, ← hi]; exact ha) he)
      have HLN := Lib.hid (show (corn (lastD c) (c.take k)).length ≤ k from by
        have := (corn_sub (c.take k) (lastD c)).length_le
        rw [List.length_map, List.length_take] at this; omega)
      have pk : (c.map fun e => scl (startC e))[k]? = some (e.1 * 256, e.2.1 * 256) := by rw [List.getElem?_map, he]; rfl
      have pa : (c.map fun e => scl (startC e))[i]? = some (a.1 * 256, a.2.1 * 256) := by rw [List.getElem?_map, ha]; rfl
      have pb : (c.map fun e => scl (startC e))[j]? = some (b.1 * 256, b.2.1 * 256) := by rw [List.getElem?_map, hbq]; rfl
      obtain ⟨bA, oA, rfl⟩ := hA.addr pk
      obtain ⟨a0, a1⟩ := ptc_cell hA pa
      obtain ⟨b0, b1⟩ := ptc_cell hA pb
      obtain ⟨e0, e1⟩ := ptc_cell hA pk
      dsimp only at a0 a1 b0 b1 e0 e1
      replace a0 := hE.cell a0
      replace a1 := hE.cell a1
      replace b0 := hE.cell b0
      replace b1 := hE.cell b1
      replace e0 := hE.cell e0
      replace e1 := hE.cell e1
      have HK := Lib.hid (show scl (startC e) = (e.1 * 256, e.2.1 * 256) from rfl)
      have HXA := Lib.hid (show a.1 * 256 = e.1 * 256 ↔ a.1 = e.1 from by omega)
      have HXB := Lib.hid (show b.1 * 256 = e.1 * 256 ↔ b.1 = e.1 from by omega)
      generalize a.1 * 256 = xa at *
      generalize a.2.1 * 256 = ya at *
      generalize b.1 * 256 = xb at *
      generalize b.2.1 * 256 = yb at *
      generalize e.1 * 256 = xe at *
      generalize e.2.1 * 256 = ye at *
      have m1 := tmod_nat (a := k + n - 1) (n := n) (x := (k : Int) + n - 1) (by omega)
      have m2 := emod_nat (a := k + n - 1) (n := n) (x := (k : Int) + n - 1) (by omega)
      have m3 := tmod_nat (a := k + 1) (n := n) (x := (k : Int) + 1) (by omega)
      have m4 := emod_nat (a := k + 1) (n := n) (x := (k : Int) + 1) (by omega)
      rw [← hi] at m1 m2
      rw [← hj] at m3 m4
      have q3 : ¬ n = 0 := by omega
      have w1 : IntKind.i64.wrap ((k : Int) + (n : Int)) = (k : Int) + n := IntWalk.i64_in _ (by omega)
      have w2 : IntKind.i64.wrap ((k : Int) + (n : Int) - 1) = (k : Int) + n - 1 := IntWalk.i64_in _ (by omega)
      have w3 : IntKind.i64.wrap ((k : Int) + 1) = (k : Int) + 1 := IntWalk.i64_in _ (by omega)
      clear he ha hbq hi hj pk pa pb
      go_wp2_with fail
      go_region_held3 (fun w' => w'.cell? ⟨bA, oA + i * 2, none⟩ = some (.int .i64 xa) ∧ w'.cell? ⟨bA, oA + i * 2 + 1, none⟩ = some (.int .i64 ya) ∧ w'.cell? ⟨bA, oA + j * 2, none⟩ = some (.int .i64 xb) ∧ w'.cell? ⟨bA, oA + j * 2 + 1, none⟩ = some (.int .i64 yb)) (go_keep) (fail)
      · rename_i hHeld
        have b6 := ((Box.new wr 42 #[.int .i64 xa, .int .i64 ya]).alloc (.cells #[.int .i64 xb, .int .i64 yb] 42)).drew
        have b7 := (Box.at1 (w := wr) (o := (.cells #[.int .i64 xa, .int .i64 ya] 42)) (t := 42) (cs := #[.int .i64 xb, .int .i64 yb])).drew
        have hEW := ((Ext.alloc wr (.cells #[.int .i64 xa, .int .i64 ya] 42)).trans (Ext.alloc _ (.cells #[.int .i64 xb, .int .i64 yb] 42))).trans (Ext.drew _)
        clear hHeld
        generalize World.drew _ = W at *
        generalize wr.heap.size + 1 = B7 at *
        generalize wr.heap.size = B6 at *
        clear a0 a1 b0 b1
        have hE1 := hE.trans hEW
        replace hown := hown.ext hEW
        replace e0 := hEW.cell e0
        replace e1 := hEW.cell e1
        have c6 := b6.cell
        have c7 := b7.cell
        clear c6 c7 hE hEW
        go_wp2_with fail
        apply wp_region_par' 17 (by kernel_rfl) (by kernel_rfl) rfl
        simp only [List.take_succ_cons, List.take_zero, List.drop_succ_cons, List.drop_zero]
        generalize hV : World.drew _ = V
        have hEV : Ext W V := by rw [← hV]; exact Ext.drew _
        clear hV
        have c6 := (b6.ext hEV).lcell
        have c7 := (b7.ext hEV).lcell
        have E0 := fun z : Later V => z.cell (hEV.cell e0)
        have E1 := fun z : Later V => z.cell (hEV.cell e1)
        by_cases h1 : xa = xe
        · by_cases h2 : xb = xe
          · have d1 : (xa == xe) = true := by simp [h1]
            have d1' : decide (xa = xe) = true := by simp [h1]
            have d2 : (xb == xe) = true := by simp [h2]
            have d2' : decide (xb = xe) = true := by simp [h2]
            have HX := Lib.hid (show a.2.2.2.2 = e.2.2.2.2 from by
              have h3 := HC1.out
              have h4 : decide (a.1 = e.1) = true := by exact decide_eq_true (HXA.out.1 h1)
              have h5 : decide (b.1 = e.1) = true := by exact decide_eq_true (HXB.out.1 h2)
              rw [h4, h5] at h3
              simpa using h3)
            have HS := Lib.hid (show corn (lastD c) (c.take (k + 1)) = corn (lastD c) (c.take k) from by rw [HCS.out, if_pos HX.out, List.append_nil])
            clear h1 h2
            iterate 17
              refine parW_step rfl (fun K hK => ?_)
              apply Exists.intro
              refine ⟨fun z => ?_, ?_⟩
              focus
                go_simp
                first
                  | rfl
                  | fail
              go_simp
              refine hK _ ?_
              clear hK K
            refine parW_end (fun z => ?_)
            have hEz := hEV.later z
            have hE2 := hE1.trans hEz
            have hown2 := hown.ext hEz
            have k0 := hEz.cell e0
            have k1 := hEz.cell e1
            clear E0 E1 c6 c7 e0 e1 d1 d1' d2 d2' hown hE1
            generalize z.val = Z at *
            clear z hEV hEz
            go_wp2
            go_roundw
            case rel => exact ⟨k + 1, by omega, by go_num, hE2, by rw [HS.out]; exact hown2⟩
            case measure => simp [intOf]; omega
          · have d1 : (xa == xe) = true := by simp [h1]
            have d1' : decide (xa = xe) = true := by simp [h1]
            have d2 : (xb == xe) = false := by simp [h2]
            have d2' : decide (xb = xe) = false := by simp [h2]
            have HX := Lib.hid (show ¬ a.2.2.2.2 = e.2.2.2.2 from by
              have h3 := HC1.out
              have h4 : decide (a.1 = e.1) = true := by exact decide_eq_true (HXA.out.1 h1)
              have h5 : decide (b.1 = e.1) = false := by exact decide_eq_false (fun h => h2 (HXB.out.2 h))
              rw [h4, h5] at h3
              simpa using h3)
            have HS := Lib.hid (show (corn (lastD c) (c.take (k + 1))).map scl = (corn (lastD c) (c.take k)).map scl ++ [(xe, ye)] from by rw [HCS.out, if_neg HX.out, List.map_append, List.map_singleton, HK.out])
            clear h1 h2
            iterate 17
              refine parW_step rfl (fun K hK => ?_)
              apply Exists.intro
              refine ⟨fun z => ?_, ?_⟩
              focus
                go_simp
                first
                  | rfl
                  | fail
              go_simp
              refine hK _ ?_
              clear hK K
            refine parW_end (fun z => ?_)
            have hEz := hEV.later z
            have hE2 := hE1.trans hEz
            have hown2 := hown.ext hEz
            have k0 := hEz.cell e0
            have k1 := hEz.cell e1
            clear E0 E1 c6 c7 e0 e1 d1 d1' d2 d2' hown hE1
            generalize z.val = Z at *
            clear z hEV hEz
            have hEa := hE2.trans (Ext.alloc Z (.cells #[.int .i64 xe, .int .i64 ye] 42))
            have hownA := hown2.ext (Ext.alloc Z (.cells #[.int .i64 xe, .int .i64 ye] 42))
            have hrow := EL.rowOne (E := ptE) (x := (xe, ye)) (Box.new Z 42 #[.int .i64 xe, .int .i64 ye]) rfl
            have hsz := hEa.size
            have hll : ((corn (lastD c) (c.take k)).map scl).length + ([(xe, ye)] : List (Int × Int)).length ≤ 1000000000 := by
              have := HLN.out
              simp only [List.length_map, List.length_singleton]; omega
            go_wp2_with (at_builtin; refine EL.wpApp ptE rfl _ _ rfl w.heap.size _ _ _ [(xe, ye)] rfl rfl hownA hrow hll hsz ?_; intro v1 W1 own1 gr1 _)
            have hE3 := growExt hEa hownA (Nat.le_refl _) gr1
            go_roundw
            case rel => exact ⟨k + 1, by omega, by go_num, hE3, by rw [HS.out]; exact own1⟩
            case measure => simp [intOf]; omega
        · by_cases h2 : xb = xe
          · have d1 : (xa == xe) = false := by simp [h1]
            have d1' : decide (xa = xe) = false := by simp [h1]
            have d2 : (xb == xe) = true := by simp [h2]
            have d2' : decide (xb = xe) = true := by simp [h2]
            have HX := Lib.hid (show ¬ a.2.2.2.2 = e.2.2.2.2 from by
              have h3 := HC1.out
              have h4 : decide (a.1 = e.1) = false := by exact decide_eq_false (fun h => h1 (HXA.out.2 h))
              have h5 : decide (b.1 = e.1) = true := by exact decide_eq_true (HXB.out.1 h2)
              rw [h4, h5] at h3
              simpa using h3)
            have HS := Lib.hid (show (corn (lastD c) (c.take (k + 1))).map scl = (corn (lastD c) (c.take k)).map scl ++ [(xe, ye)] from by rw [HCS.out, if_neg HX.out, List.map_append, List.map_singleton, HK.out])
            clear h1 h2
            iterate 17
              refine parW_step rfl (fun K hK => ?_)
              apply Exists.intro
              refine ⟨fun z => ?_, ?_⟩
              focus
                go_simp
                first
                  | rfl
                  | fail
              go_simp
              refine hK _ ?_
              clear hK K
            refine parW_end (fun z => ?_)
            have hEz := hEV.later z
            have hE2 := hE1.trans hEz
            have hown2 := hown.ext hEz
            have k0 := hEz.cell e0
            have k1 := hEz.cell e1
            clear E0 E1 c6 c7 e0 e1 d1 d1' d2 d2' hown hE1
            generalize z.val = Z at *
            clear z hEV hEz
            have hEa := hE2.trans (Ext.alloc Z (.cells #[.int .i64 xe, .int .i64 ye] 42))
            have hownA := hown2.ext (Ext.alloc Z (.cells #[.int .i64 xe, .int .i64 ye] 42))
            have hrow := EL.rowOne (E := ptE) (x := (xe, ye)) (Box.new Z 42 #[.int .i64 xe, .int .i64 ye]) rfl
            have hsz := hEa.size
            have hll : ((corn (lastD c) (c.take k)).map scl).length + ([(xe, ye)] : List (Int × Int)).length ≤ 1000000000 := by
              have := HLN.out
              simp only [List.length_map, List.length_singleton]; omega
            go_wp2_with (at_builtin; refine EL.wpApp ptE rfl _ _ rfl w.heap.size _ _ _ [(xe, ye)] rfl rfl hownA hrow hll hsz ?_; intro v1 W1 own1 gr1 _)
            have hE3 := growExt hEa hownA (Nat.le_refl _) gr1
            go_roundw
            case rel => exact ⟨k + 1, by omega, by go_num, hE3, by rw [HS.out]; exact own1⟩
            case measure => simp [intOf]; omega
          · have d1 : (xa == xe) = false := by simp [h1]
            have d1' : decide (xa = xe) = false := by simp [h1]
            have d2 : (xb == xe) = false := by simp [h2]
            have d2' : decide (xb = xe) = false := by simp [h2]
            have HX := Lib.hid (show a.2.2.2.2 = e.2.2.2.2 from by
              have h3 := HC1.out
              have h4 : decide (a.1 = e.1) = false := by exact decide_eq_false (fun h => h1 (HXA.out.2 h))
              have h5 : decide (b.1 = e.1) = false := by exact decide_eq_false (fun h => h2 (HXB.out.2 h))
              rw [h4, h5] at h3
              simpa using h3)
            have HS := Lib.hid (show corn (lastD c) (c.take (k + 1)) = corn (lastD c) (c.take k) from by rw [HCS.out, if_pos HX.out, List.append_nil])
            clear h1 h2
            iterate 17
              refine parW_step rfl (fun K hK => ?_)
              apply Exists.intro
              refine ⟨fun z => ?_, ?_⟩
              focus
                go_simp
                first
                  | rfl
                  | fail
              go_simp
              refine hK _ ?_
              clear hK K
            refine parW_end (fun z => ?_)
            have hEz := hEV.later z
            have hE2 := hE1.trans hEz
            have hown2 := hown.ext hEz
            have k0 := hEz.cell e0
            have k1 := hEz.cell e1
            clear E0 E1 c6 c7 e0 e1 d1 d1' d2 d2' hown hE1
            generalize z.val = Z at *
            clear z hEV hEz
            go_wp2
            go_roundw
            case rel => exact ⟨k + 1, by omega, by go_num, hE2, by rw [HS.out]; exact hown2⟩
            case measure => simp [intOf]; omega
      · rename_i hHeld
        have b7 := ((Box.new wr 42 #[.int .i64 xb, .int .i64 yb]).alloc (.cells #[.int .i64 xa, .int .i64 ya] 42)).drew
        have b6 := (Box.at1 (w := wr) (o := (.cells #[.int .i64 xb, .int .i64 yb] 42)) (t := 42) (cs := #[.int .i64 xa, .int .i64 ya])).drew
        have hEW := ((Ext.alloc wr (.cells #[.int .i64 xb, .int .i64 yb] 42)).trans (Ext.alloc _ (.cells #[.int .i64 xa, .int .i64 ya] 42))).trans (Ext.drew _)
        clear hHeld
        generalize World.drew _ = W at *
        generalize wr.heap.size + 1 = B6 at *
        generalize wr.heap.size = B7 at *
        clear a0 a1 b0 b1
        have hE1 := hE.trans hEW
        replace hown := hown.ext hEW
        replace e0 := hEW.cell e0
        replace e1 := hEW.cell e1
        have c6 := b6.cell
        have c7 := b7.cell
        clear c6 c7 hE hEW
        go_wp2_with fail
        apply wp_region_par' 17 (by kernel_rfl) (by kernel_rfl) rfl
        simp only [List.take_succ_cons, List.take_zero, List.drop_succ_cons, List.drop_zero]
        generalize hV : World.drew _ = V
        have hEV : Ext W V := by rw [← hV]; exact Ext.drew _
        clear hV
        have c6 := (b6.ext hEV).lcell
        have c7 := (b7.ext hEV).lcell
        have E0 := fun z : Later V => z.cell (hEV.cell e0)
        have E1 := fun z : Later V => z.cell (hEV.cell e1)
        by_cases h1 : xa = xe
        · by_cases h2 : xb = xe
          · have d1 : (xa == xe) = true := by simp [h1]
            have d1' : decide (xa = xe) = true := by simp [h1]
            have d2 : (xb == xe) = true := by simp [h2]
            have d2' : decide (xb = xe) = true := by simp [h2]
            have HX := Lib.hid (show a.2.2.2.2 = e.2.2.2.2 from by
              have h3 := HC1.out
              have h4 : decide (a.1 = e.1) = true := by exact decide_eq_true (HXA.out.1 h1)
              have h5 : decide (b.1 = e.1) = true := by exact decide_eq_true (HXB.out.1 h2)
              rw [h4, h5] at h3
              simpa using h3)
            have HS := Lib.hid (show corn (lastD c) (c.take (k + 1)) = corn (lastD c) (c.take k) from by rw [HCS.out, if_pos HX.out, List.append_nil])
            clear h1 h2
            iterate 17
              refine parW_step rfl (fun K hK => ?_)
              apply Exists.intro
              refine ⟨fun z => ?_, ?_⟩
              focus
                go_simp
                first
                  | rfl
                  | fail
              go_simp
              refine hK _ ?_
              clear hK K
            refine parW_end (fun z => ?_)
            have hEz := hEV.later z
            have hE2 := hE1.trans hEz
            have hown2 := hown.ext hEz
            have k0 := hEz.cell e0
            have k1 := hEz.cell e1
            clear E0 E1 c6 c7 e0 e1 d1 d1' d2 d2' hown hE1
            generalize z.val = Z at *
            clear z hEV hEz
            go_wp2
            go_roundw
            case rel => exact ⟨k + 1, by omega, by go_num, hE2, by rw [HS.out]; exact hown2⟩
            case measure => simp [intOf]; omega
          · have d1 : (xa == xe) = true := by simp [h1]
            have d1' : decide (xa = xe) = true := by simp [h1]
            have d2 : (xb == xe) = false := by simp [h2]
            have d2' : decide (xb = xe) = false := by simp [h2]
            have HX := Lib.hid (show ¬ a.2.2.2.2 = e.2.2.2.2 from by
              have h3 := HC1.out
              have h4 : decide (a.1 = e.1) = true := by exact decide_eq_true (HXA.out.1 h1)
              have h5 : decide (b.1 = e.1) = false := by exact decide_eq_false (fun h => h2 (HXB.out.2 h))
              rw [h4, h5] at h3
              simpa using h3)
            have HS := Lib.hid (show (corn (lastD c) (c.take (k + 1))).map scl = (corn (lastD c) (c.take k)).map scl ++ [(xe, ye)] from by rw [HCS.out, if_neg HX.out, List.map_append, List.map_singleton, HK.out])
            clear h1 h2
            iterate 17
              refine parW_step rfl (fun K hK => ?_)
              apply Exists.intro
              refine ⟨fun z => ?_, ?_⟩
              focus
                go_simp
                first
                  | rfl
                  | fail
              go_simp
              refine hK _ ?_
              clear hK K
            refine parW_end (fun z => ?_)
            have hEz := hEV.later z
            have hE2 := hE1.trans hEz
            have hown2 := hown.ext hEz
            have k0 := hEz.cell e0
            have k1 := hEz.cell e1
            clear E0 E1 c6 c7 e0 e1 d1 d1' d2 d2' hown hE1
            generalize z.val = Z at *
            clear z hEV hEz
            have hEa := hE2.trans (Ext.alloc Z (.cells #[.int .i64 xe, .int .i64 ye] 42))
            have hownA := hown2.ext (Ext.alloc Z (.cells #[.int .i64 xe, .int .i64 ye] 42))
            have hrow := EL.rowOne (E := ptE) (x := (xe, ye)) (Box.new Z 42 #[.int .i64 xe, .int .i64 ye]) rfl
            have hsz := hEa.size
            have hll : ((corn (lastD c) (c.take k)).map scl).length + ([(xe, ye)] : List (Int × Int)).length ≤ 1000000000 := by
              have := HLN.out
              simp only [List.length_map, List.length_singleton]; omega
            go_wp2_with (at_builtin; refine EL.wpApp ptE rfl _ _ rfl w.heap.size _ _ _ [(xe, ye)] rfl rfl hownA hrow hll hsz ?_; intro v1 W1 own1 gr1 _)
            have hE3 := growExt hEa hownA (Nat.le_refl _) gr1
            go_roundw
            case rel => exact ⟨k + 1, by omega, by go_num, hE3, by rw [HS.out]; exact own1⟩
            case measure => simp [intOf]; omega
        · by_cases h2 : xb = xe
          · have d1 : (xa == xe) = false := by simp [h1]
            have d1' : decide (xa = xe) = false := by simp [h1]
            have d2 : (xb == xe) = true := by simp [h2]
            have d2' : decide (xb = xe) = true := by simp [h2]
            have HX := Lib.hid (show ¬ a.2.2.2.2 = e.2.2.2.2 from by
              have h3 := HC1.out
              have h4 : decide (a.1 = e.1) = false := by exact decide_eq_false (fun h => h1 (HXA.out.2 h))
              have h5 : decide (b.1 = e.1) = true := by exact decide_eq_true (HXB.out.1 h2)
              rw [h4, h5] at h3
              simpa using h3)
            have HS := Lib.hid (show (corn (lastD c) (c.take (k + 1))).map scl = (corn (lastD c) (c.take k)).map scl ++ [(xe, ye)] from by rw [HCS.out, if_neg HX.out, List.map_append, List.map_singleton, HK.out])
            clear h1 h2
            iterate 17
              refine parW_step rfl (fun K hK => ?_)
              apply Exists.intro
              refine ⟨fun z => ?_, ?_⟩
              focus
                go_simp
                first
                  | rfl
                  | fail
              go_simp
              refine hK _ ?_
              clear hK K
            refine parW_end (fun z => ?_)
            have hEz := hEV.later z
            have hE2 := hE1.trans hEz
            have hown2 := hown.ext hEz
            have k0 := hEz.cell e0
            have k1 := hEz.cell e1
            clear E0 E1 c6 c7 e0 e1 d1 d1' d2 d2' hown hE1
            generalize z.val = Z at *
            clear z hEV hEz
            have hEa := hE2.trans (Ext.alloc Z (.cells #[.int .i64 xe, .int .i64 ye] 42))
            have hownA := hown2.ext (Ext.alloc Z (.cells #[.int .i64 xe, .int .i64 ye] 42))
            have hrow := EL.rowOne (E := ptE) (x := (xe, ye)) (Box.new Z 42 #[.int .i64 xe, .int .i64 ye]) rfl
            have hsz := hEa.size
            have hll : ((corn (lastD c) (c.take k)).map scl).length + ([(xe, ye)] : List (Int × Int)).length ≤ 1000000000 := by
              have := HLN.out
              simp only [List.length_map, List.length_singleton]; omega
            go_wp2_with (at_builtin; refine EL.wpApp ptE rfl _ _ rfl w.heap.size _ _ _ [(xe, ye)] rfl rfl hownA hrow hll hsz ?_; intro v1 W1 own1 gr1 _)
            have hE3 := growExt hEa hownA (Nat.le_refl _) gr1
            go_roundw
            case rel => exact ⟨k + 1, by omega, by go_num, hE3, by rw [HS.out]; exact own1⟩
            case measure => simp [intOf]; omega
          · have d1 : (xa == xe) = false := by simp [h1]
            have d1' : decide (xa = xe) = false := by simp [h1]
            have d2 : (xb == xe) = false := by simp [h2]
            have d2' : decide (xb = xe) = false := by simp [h2]
            have HX := Lib.hid (show a.2.2.2.2 = e.2.2.2.2 from by
              have h3 := HC1.out
              have h4 : decide (a.1 = e.1) = false := by exact decide_eq_false (fun h => h1 (HXA.out.2 h))
              have h5 : decide (b.1 = e.1) = false := by exact decide_eq_false (fun h => h2 (HXB.out.2 h))
              rw [h4, h5] at h3
              simpa using h3)
            have HS := Lib.hid (show corn (lastD c) (c.take (k + 1)) = corn (lastD c) (c.take k) from by rw [HCS.out, if_pos HX.out, List.append_nil])
            clear h1 h2
            iterate 17
              refine parW_step rfl (fun K hK => ?_)
              apply Exists.intro
              refine ⟨fun z => ?_, ?_⟩
              focus
                go_simp
                first
                  | rfl
                  | fail
              go_simp
              refine hK _ ?_
              clear hK K
            refine parW_end (fun z => ?_)
            have hEz := hEV.later z
            have hE2 := hE1.trans hEz
            have hown2 := hown.ext hEz
            have k0 := hEz.cell e0
            have k1 := hEz.cell e1
            clear E0 E1 c6 c7 e0 e1 d1 d1' d2 d2' hown hE1
            generalize z.val = Z at *
            clear z hEV hEz
            go_wp2
            go_roundw
            case rel => exact ⟨k + 1, by omega, by go_num, hE2, by rw [HS.out]; exact hown2⟩
            case measure => simp [intOf]; omega
    · have dk : ((k : Int) < (n : Int)) = False := eq_false (by omega)
      have hfin : c.take k = c := List.take_of_length_le (by rw [HN.out]; omega)
      rw [hfin] at hown
      clear hfin
      go_wp2
      exact bodyPost_ret (v := u3) (by simp [results, Tryz.results26, go_sem, List.size_toArray]) rfl ⟨_, rfl, hE, hown⟩
end Go.Proofs.YtkjpcjmbhpfelaaGreat
