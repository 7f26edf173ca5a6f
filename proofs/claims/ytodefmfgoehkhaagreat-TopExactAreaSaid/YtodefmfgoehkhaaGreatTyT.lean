/- TopExactArea, walked. -/
import Derived.Test.YtodefmfgoehkhaaGreatZX
set_option linter.unusedVariables false
set_option linter.unusedSimpArgs false
namespace Go.Proofs.YtodefmfgoehkhaaGreat
open Go.RowKit Go.Par Go.Shelf Go.TN Go.Lib
open Go.TA (E2 IntR lineLen Events AreaOf covQ SumRow SumTo)

set_option maxRecDepth 100000 in
set_option maxHeartbeats 3200000 in
theorem Top_any (L : List (List P2)) (A : Option Addr) (c : Nat) (rule : Int) (w : World) (hc : L.length ≤ 17592186044416) (hL : RingsAt w A L) :
    Calls Tryz.prog 3 #[.slice A L.length c, .int .i64 rule] w fun e w' => e = .returned (.bool true) ∧ Ext w w' := by
  have HSM := Lib.hid (Small_any L A c w hc hL)
  have HEX := Lib.hid (fun W => example_any W)
  have HL := Lib.hid hL
  obtain ⟨n, hn⟩ : ∃ n, n = L.length := ⟨_, rfl⟩
  rw [← hn] at HSM ⊢
  have HN := Lib.hid hn
  clear hn hc hL
  go_enter Tryz.func3, Tryz.ntmps3
  go_wp2_with fail
  refine HSM.out.mono ?_
  rintro e w1 ⟨rfl, hE⟩
  clear HSM
  cases hs : smallS L
  · go_wp2_with fail
    refine (HEX.out _).mono ?_
    rintro e w2 ⟨rfl, hE2⟩
    go_wp2
    go_ret
    exact ⟨rfl, hE.trans hE2⟩
  · by_cases hr : rule = 1 ∨ rule = 2
    · have hS := small_lenS hs
      have hLn := small_len hs
      have hv := small_valid hs
      obtain ⟨X0, Y0, X1, Y1, hp⟩ : ∃ a b c d, pixS L = (a, b, c, d) := ⟨_, _, _, _, rfl⟩
      have HSM := Lib.hid hs
      have HPX := Lib.hid hp
      obtain ⟨hbx, hby, _⟩ := small_pix hs hp
      obtain ⟨hx1, hx2, hx3⟩ := hbx
      obtain ⟨hy1, hy2, hy3⟩ := hby
      have hmul := mul_le (a := 6) (b := 6) (x := X1 - X0) (y := Y1 - Y0) (by omega) (by omega) (by omega) (by omega)
      obtain ⟨N, hN⟩ : ∃ N : Nat, (X1 - X0) * (Y1 - Y0) = (N : Int) := ⟨((X1 - X0) * (Y1 - Y0)).toNat, by omega⟩
      have hN36 : N ≤ 36 := by omega
      obtain ⟨V, hV⟩ : ∃ V : Int → Int → Rat, ∀ x y S, AreaOf (fun n => fillsS n rule) (edgesL L) (256 * x) (256 * y) (256 * (x + 1)) (256 * (y + 1)) S → S = V x y :=
        ⟨fun x y => Classical.choose (Go.TA.area_fix (fun n => fillsS n rule) (edgesL L) (256 * x) (256 * y) (256 * (x + 1)) (256 * (y + 1))), fun x y S h => Classical.choose_spec (Go.TA.area_fix (fun n => fillsS n rule) (edgesL L) (256 * x) (256 * y) (256 * (x + 1)) (256 * (y + 1))) S h⟩
      have HTO := Lib.hid (fun W (hW : Ext w W) => Total_any (rule := rule) L A c W (by omega) (by omega) hv (HL.out.ext hW) hr)
      have HPI := Lib.hid (fun W (hW : Ext w W) => Pix_any L A c W (by omega) (HL.out.ext hW) (by omega))
      rw [hp] at HPI
      unfold rectV at HPI
      dsimp only at HPI
      have HMA := Lib.hid (fun W (hW : Ext w W) => Mask_any (rule := rule) L A c W (by omega) (by omega) hv (HL.out.ext hW) hr hp hN (by omega) hV)
      have HP1 := Lib.hid (fun W (hW : Ext w W) x y (h1 : X0 ≤ x) (h2 : x < X1) (h3 : Y0 ≤ y) (h4 : y < Y1) => Pixel_any (rule := rule) (x := x) (y := y) L A c W (by omega) (by omega) hv (HL.out.ext hW) hr (by omega) (by omega))
      have HP2 := Lib.hid (fun W (hW : Ext w W) x y (h1 : X0 ≤ x) (h2 : x < X1) (h3 : Y0 ≤ y) (h4 : y < Y1) => Pixel_any (rule := 1) (x := x) (y := y) L A c W (by omega) (by omega) hv (HL.out.ext hW) (.inl rfl) (by omega) (by omega))
      rw [← HN.out] at HTO HPI HMA HP1 HP2
      have HV := Lib.hid hV
      have HNN := Lib.hid hN
      clear hV hN hp hS hLn hv hmul hs
      obtain ⟨F, hF⟩ : ∃ F : Int → Bool, F = fun n => fillsS n rule := ⟨_, rfl⟩
      have HF := Lib.hid hF
      clear hF
      rcases hr with rfl | rfl
      all_goals
        go_wp2_with fail
        refine (HTO.out _ hE).mono ?_
        rintro e w2 ⟨v, T, rfl, hE2, hv, hsT, hrel⟩
        obtain ⟨p, rfl, hpq, hpa⟩ := hv.rq
        have HREL := Lib.hid hrel
        have HST := Lib.hid hsT
        have hEA := Ext.alloc w2 (.cells #[.bool p.b, .slice p.A p.n p.c, .bool p.b', .slice p.A' p.n' p.c'] 29)
        have x5 := Box.new w2 29 #[.bool p.b, .slice p.A p.n p.c, .bool p.b', .slice p.A' p.n' p.c']
        replace hE := (hE.trans hE2).trans hEA
        replace hpa := hpa.ext hEA
        unfold RQ.v
        clear hE2 hEA hv hsT hrel HTO
        go_wp2_with fail
        refine (HPI.out _ hE).mono ?_
        rintro e w3 ⟨rfl, hE2⟩
        have hEA := Ext.alloc w3 (.cells #[.int .i64 X0, .int .i64 Y0, .int .i64 X1, .int .i64 Y1] 34)
        have x7 := Box.new w3 34 #[.int .i64 X0, .int .i64 Y0, .int .i64 X1, .int .i64 Y1]
        have hE3 := hE2.trans hEA
        replace hE := hE.trans hE3
        replace hpa := hpa.ext hE3
        replace x5 := x5.ext hE3
        have c7 := x7.cell
        have q1 : IntKind.i64.wrap (X1 - X0) = X1 - X0 := IntWalk.i64_in _ (by omega)
        have q2 : IntKind.i64.wrap (Y1 - Y0) = Y1 - Y0 := IntWalk.i64_in _ (by omega)
        have d1 : (13 < X1 - X0) = False := eq_false (by omega)
        have d2 : (13 < Y1 - Y0) = False := eq_false (by omega)
        clear hE2 hEA hE3 HPI
        go_wp2_with fail
        refine (fromIntV 0 _ (by omega) (by omega)).mono ?_
        rintro e w4 ⟨v, rfl, hE2, hv⟩
        have hw8 := Nat.le_trans hE.size hE2.size
        obtain ⟨z0, rfl, hz0, hza⟩ := hv.rq
        have hEA := Ext.alloc w4 (.cells #[.bool z0.b, .slice z0.A z0.n z0.c, .bool z0.b', .slice z0.A' z0.n' z0.c'] 29)
        have x8 := Box.new w4 29 #[.bool z0.b, .slice z0.A z0.n z0.c, .bool z0.b', .slice z0.A' z0.n' z0.c']
        have n5 : w2.heap.size ≠ w4.heap.size := by have := (x5.ext hE2).lt; omega
        have n7 : w3.heap.size ≠ w4.heap.size := by have := (x7.ext hE2).lt; omega
        have hE3 := hE2.trans hEA
        replace hE := hE.trans hE3
        replace hpa := hpa.ext hE3
        replace hza := hza.ext hEA
        replace x5 := x5.ext hE3
        replace x7 := x7.ext hE3
        clear c7 q1 q2 d1 d2
        have c7 := x7.cell
        clear hE2 hEA hE3 hv
        unfold RQ.v
        go_wp2_with fail
        refine (HMA.out _ hE).mono ?_
        rintro e w5 ⟨bc, cs, rfl, hE2, xc, hcs, hcov⟩
        have hEA := Ext.alloc w5 (.cells #[.int .i64 X0, .int .i64 Y0, .int .i64 X1, .int .i64 Y1, .slice (some ⟨bc, 0, none⟩) N N] 39)
        have x9 := Box.new w5 39 #[.int .i64 X0, .int .i64 Y0, .int .i64 X1, .int .i64 Y1, .slice (some ⟨bc, 0, none⟩) N N]
        have hE3 := hE2.trans hEA
        have n9 : w5.heap.size ≠ w4.heap.size := by have := (x8.ext hE2).lt; omega
        replace hE := hE.trans hE3
        replace hpa := hpa.ext hE3
        replace hza := hza.ext hE3
        replace x5 := x5.ext hE3
        replace x7 := x7.ext hE3
        replace x8 := x8.ext hE3
        replace xc := xc.ext hEA
        have nc : bc ≠ w4.heap.size := Ne.symm (Box.ne x8 xc (by decide))
        have HCOV := Lib.hid hcov
        have HCS := Lib.hid hcs
        clear c7
        have c7 := x7.cell
        clear hE2 hEA hE3 hcov hcs HMA
        go_wp2_with fail
        clear c7
        generalize w5.alloc (.cells #[.int .i64 X0, .int .i64 Y0, .int .i64 X1, .int .i64 Y1, .slice (some ⟨bc, 0, none⟩) N N] 39) = w6 at *
        generalize w2.heap.size = b5 at *
        generalize w3.heap.size = b7 at *
        generalize w4.heap.size = b8 at *
        generalize w5.heap.size = b9 at *
        go_loopw [11, 12, 13, 14, 15, 16, 17] (fun nv yv _ _ _ _ _ wr => ∃ (y : Int) (k : Nat) (sq : RQ), Y0 ≤ y ∧ y ≤ Y1 ∧ nv = .int .i64 k ∧ yv = .int .i64 y ∧ But b8 w6 wr ∧ DigKeep w6 wr ∧ Box wr b8 29 #[.bool sq.b, .slice sq.A sq.n sq.c, .bool sq.b', .slice sq.A' sq.n' sq.c'] ∧
          Hid ((k : Int) = (y - Y0) * (X1 - X0) ∧ sq.At wr ∧ SumRow F (edgesL L) X0 X1 Y0 y sq.q ∧ Sz (2 + k * 503111) sq.q)) (fun _ i _ _ _ _ _ _ => (Y1 - intOf i).toNat)
        case atStart => exact ⟨Y0, 0, z0, Int.le_refl _, hy2, rfl, rfl, But.refl _ _, DigKeep.refl _, x8, Lib.hid ⟨by simp, hza, by rw [hz0]; exact SumRow.start _ _ _ _ _, by rw [hz0]; exact Sz.coord (z := 0) (by omega) (by omega)⟩⟩
        case round =>
          obtain ⟨y, k, sq, hya, hyb, rfl, rfl, hbut, hdig, y8, HQ⟩ := hrel
          have r7 := hbut.box x7 n7
          have c7 := r7.cell
          by_cases hlt : y < Y1
          · have d1 : (y < Y1) = True := eq_true hlt
            go_wp2_with fail
            clear d1 c7 r7
            have HROW : Hid ((k : Int) = pixI (X0, Y0, X1, Y1) X0 y ∧ sq.At wr ∧ SumTo F (edgesL L) X0 X1 Y0 X0 y sq.q ∧ Sz (2 + k * 503111) sq.q) := Lib.hid ⟨by rw [HQ.out.1]; unfold pixI; dsimp only; omega, HQ.out.2.1, HQ.out.2.2.1.begun, HQ.out.2.2.2⟩
            clear HQ
            generalize wr = wo at *
            go_loopw [11, 13, 14, 15, 16, 17] (fun nv xv _ _ _ _ wr => ∃ (x : Int) (k : Nat) (sq : RQ), X0 ≤ x ∧ x ≤ X1 ∧ nv = .int .i64 k ∧ xv = .int .i64 x ∧ But b8 w6 wr ∧ DigKeep w6 wr ∧ Box wr b8 29 #[.bool sq.b, .slice sq.A sq.n sq.c, .bool sq.b', .slice sq.A' sq.n' sq.c'] ∧
              Hid ((k : Int) = pixI (X0, Y0, X1, Y1) x y ∧ sq.At wr ∧ SumTo F (edgesL L) X0 X1 Y0 x y sq.q ∧ Sz (2 + k * 503111) sq.q)) (fun _ i _ _ _ _ _ => (X1 - intOf i).toNat)
            case atStart => exact ⟨X0, k, sq, Int.le_refl _, hx2, rfl, rfl, hbut, hdig, y8, HROW⟩
            case round =>
              clear HROW hbut hdig y8
              obtain ⟨x, k, sq, hxa, hxb, rfl, rfl, hbut, hdig, y8, HQ⟩ := hrel
              have r7 := hbut.box x7 n7
              have c7 := r7.cell
              by_cases hlx : x < X1
              · have d1 : (x < X1) = True := eq_true hlx
                have hEr := hE.but hbut hw8
                have HA := Lib.hid (HP1.out _ hEr x y hxa hlx hya hlt)
                go_wp2_with fail
                refine HA.out.mono ?_
                rintro e w7 ⟨v, S, rfl, hE2, hv, hsv, harS⟩
                obtain ⟨a, rfl, haq, haa⟩ := hv.rq
                have hEA := Ext.alloc w7 (.cells #[.bool a.b, .slice a.A a.n a.c, .bool a.b', .slice a.A' a.n' a.c'] 29)
                have x14 := Box.new w7 29 #[.bool a.b, .slice a.A a.n a.c, .bool a.b', .slice a.A' a.n' a.c']
                have hE3 := hE2.trans hEA
                have HB := Lib.hid (HP2.out _ (hEr.trans hE3) x y hxa hlx hya hlt)
                replace haa := haa.ext hEA
                unfold RQ.v
                clear d1 c7 r7 HA hE2 hEA hv
                go_wp2_with fail
                refine HB.out.mono ?_
                rintro e w8 ⟨v, S2, rfl, hE4, hv2, hsv2, harS2⟩
                obtain ⟨b, rfl, hbq, hba⟩ := hv2.rq
                have hEA := Ext.alloc w8 (.cells #[.bool b.b, .slice b.A b.n b.c, .bool b.b', .slice b.A' b.n' b.c'] 29)
                have x16 := Box.new w8 29 #[.bool b.b, .slice b.A b.n b.c, .bool b.b', .slice b.A' b.n' b.c']
                have hE5 := hE4.trans hEA
                have hE6 := hE3.trans hE5
                replace haa := haa.ext hE5
                replace hba := hba.ext hEA
                replace x14 := x14.ext hE5
                have v9 := (hbut.box x9 n9).ext hE6
                have vc := (hbut.box xc nc).ext hE6
                have v8 := y8.ext hE6
                have hle : S / 65536 ≤ S2 / 65536 := by
                  have h1 := harS.mono (fun n => fills_one) harS2
                  have h2 := Rat.mul_le_mul_of_nonneg_right h1 (show (0 : Rat) ≤ 1 / 65536 by grind)
                  grind
                have hSV := HV.out x y S harS
                obtain ⟨kb1, kb2⟩ := pixI_bd HNN.out hxa hlx hya hlt
                rw [← HQ.out.1] at kb2
                have hkN : k < N := by omega
                have hel := HCOV.out x y hxa hlx hya hlt
                rw [← HQ.out.1, Int.toNat_natCast, ← hSV, ← haq] at hel
                have hpos : 0 < cmpQ a.q b.q ↔ b.q < a.q := cmpQ_pos
                have hnr : ¬ 0 < cmpQ a.q b.q := fun h => by
                  have h1 := hpos.1 h
                  rw [haq, hbq] at h1
                  grind
                have hsa : Sz 503110 a.q := by rw [haq]; exact hsv
                have hsb : Sz 503110 b.q := by rw [hbq]; exact hsv2
                have hsum : SumTo F (edgesL L) X0 X1 Y0 (x + 1) y (sq.q + a.q) := by
                  rw [haq]
                  refine HQ.out.2.2.1.step hxa ?_
                  rw [HF.out]
                  exact harS
                have HSUM := Lib.hid hsum
                have HCM := Lib.hid (fun (z : World) (hz : Ext (w8.alloc (.cells #[.bool b.b, .slice b.A b.n b.c, .bool b.b', .slice b.A' b.n' b.c'] 29)) z) => cmpR (haa.ext hz).rv (hba.ext hz).rv hsa hsb (by omega))
                have HFA := Lib.hid (fun (z : World) (hz : Ext (w8.alloc (.cells #[.bool b.b, .slice b.A b.n b.c, .bool b.b', .slice b.A' b.n' b.c'] 29)) z) => FromArea_any (haa.ext hz).rv hsa (by omega))
                have hsq := (HQ.out.2.1.ext hE6)
                have HAD := Lib.hid (fun (z : World) (hz : Ext (w8.alloc (.cells #[.bool b.b, .slice b.A b.n b.c, .bool b.b', .slice b.A' b.n' b.c'] 29)) z) => addR (hsq.ext hz).rv (haa.ext hz).rv HQ.out.2.2.2 hsa (by omega))
                have HSZ : Hid (Sz (2 + (k + 1) * 503111) (sq.q + a.q)) := Lib.hid ((HQ.out.2.2.2.add hsa).mono (by omega))
                have HPK : Hid (((k + 1 : Nat) : Int) = pixI (X0, Y0, X1, Y1) (x + 1) y) := Lib.hid (by
                  have := HQ.out.1
                  unfold pixI at this ⊢
                  dsimp only at this ⊢
                  omega)
                have hbut1 := hbut.trans (But.of_ext hE6)
                have hdig1 := hdig.trans (DigKeep.ext hE6)
                have d5 : ((N : Int) ≤ (k : Int)) = False := eq_false (by omega)
                unfold RQ.v at HCM HFA HAD ⊢
                generalize covQ a.q = cq at *
                generalize cmpQ a.q b.q = r at *
                have d4 : decide (0 < r) = false := decide_eq_false hnr
                have hcc : (w8.alloc (.cells #[.bool b.b, .slice b.A b.n b.c, .bool b.b', .slice b.A' b.n' b.c'] 29)).cell? ⟨bc, k, none⟩ = some (.int .u8 cq) := by rw [vc.cell]; exact hel
                clear hv2 hE3 hE4 hEA hE5 hE6 hbut hdig y8 vc hSV kb1 kb2 hel hpos hnr hsum hsq hsv hsv2 harS harS2 HQ HB hle hEr haq hbq
                go_wp2_with fail
                generalize w8.alloc (.cells #[.bool b.b, .slice b.A b.n b.c, .bool b.b', .slice b.A' b.n' b.c'] 29) = w9 at *
                apply wp_region_par' 29 (by kernel_rfl) (by kernel_rfl) rfl
                simp only [List.take_succ_cons, List.take_zero, List.drop_succ_cons, List.drop_zero]
                generalize hW : World.drew _ = W
                have hEW := Ext.of_drew (Ext.refl w9) hW
                clear hW
                have z14 := (x14.ext hEW).lcell
                have z16 := (x16.ext hEW).lcell
                have z9 := (v9.ext hEW).lcell
                have zc := fun z : Later W => z.cell (hEW.cell hcc)
                have HD1 := Lib.hid (fun z : Later W => HCM.out z.val (hEW.later z))
                have HD2 := Lib.hid (fun z : Later W => HFA.out z.val (hEW.later z))
                clear HCM HFA
                iterate 29
                  refine parW_step rfl (fun K hK => ?_)
                  apply Exists.intro
                  refine ⟨fun z => ?_, ?_⟩
                  focus
                    go_simp
                    first
                      | rfl
                      | with_reducible exact calls_val (HD1.out _)
                      | with_reducible exact calls_val (HD2.out _)
                  go_simp
                  refine hK _ ?_
                  clear hK K
                refine parW_end (fun z => ?_)
                have hEz := hEW.later z
                replace x14 := x14.ext hEz
                replace v8 := v8.ext hEz
                replace hbut1 := hbut1.trans (But.of_ext hEz)
                replace hdig1 := hdig1.trans (DigKeep.ext hEz)
                have HA2 := Lib.hid (HAD.out z.val hEz)
                clear z14 z16 z9 zc HD1 HD2 HAD hcc x16 v9 hEz d4 d5
                generalize z.val = Z at *
                clear z hEW
                have c14 := x14.cell
                have c8 := v8.cell
                go_wp2_with fail
                refine HA2.out.mono ?_
                rintro e w10 ⟨v, rfl, hE7, hv⟩
                obtain ⟨s2, rfl, hsq2, hsa2⟩ := hv.rq
                replace v8 := v8.ext hE7
                obtain ⟨Y, hYY, hbY, hdY, hbx⟩ := put_rat v8 s2
                have HYY := Lib.hid hYY
                have f8 := v8.frozen
                have k8 := v8.cell
                have hbut2 := (hbut1.trans (But.of_ext hE7)).trans hbY
                have hdig2 := (hdig1.trans (DigKeep.ext hE7)).trans hdY
                have HREL2 : Hid (((k + 1 : Nat) : Int) = pixI (X0, Y0, X1, Y1) (x + 1) y ∧ s2.At Y ∧ SumTo F (edgesL L) X0 X1 Y0 (x + 1) y s2.q ∧ Sz (2 + (k + 1) * 503111) s2.q) := Lib.hid ⟨HPK.out, hsa2.dk hdY, by rw [hsq2]; exact HSUM.out, by rw [hsq2]; exact HSZ.out⟩
                unfold RQ.v
                clear hYY hbY hdY hv hsq2 hsa2 c14 c8 hE7 hbut1 hdig1 v8 HA2 HSUM HSZ HPK x14
                go_upto_region 23 with fail
                rw [HYY.out]
                clear HYY f8 k8
                go_wp2_with fail
                go_roundw
                case rel => exact ⟨x + 1, k + 1, s2, by omega, by omega, by go_num, by go_num, hbut2, hdig2, hbx, HREL2⟩
                case measure => simp [intOf]; omega
              · have d1 : (x < X1) = False := eq_false hlx
                have hxe : x = X1 := by omega
                have HROW : Hid ((k : Int) = (y + 1 - Y0) * (X1 - X0) ∧ sq.At wr ∧ SumRow F (edgesL L) X0 X1 Y0 (y + 1) sq.q ∧ Sz (2 + k * 503111) sq.q) := Lib.hid (by
                  obtain ⟨h1, h2, h3, h4⟩ := HQ.out
                  rw [hxe] at h1 h3
                  refine ⟨?_, h2, h3.close, h4⟩
                  rw [h1]
                  unfold pixI
                  dsimp only
                  rw [show y + 1 - Y0 = (y - Y0) + 1 by omega, Int.add_mul, Int.one_mul]
                  omega)
                clear hlx hxe HQ r7
                go_wp2_with fail
                go_roundw
                case rel => exact ⟨y + 1, k, sq, by omega, by omega, rfl, by go_num, hbut, hdig, y8, HROW⟩
                case measure => simp [intOf]; omega
          · have hye : y = Y1 := by omega
            subst hye
            have d1 : (y < y) = False := eq_false (by omega)
            obtain ⟨h1, h2, h3, h4⟩ := HQ.out
            have hkN : k = N := by
              have := HNN.out
              rw [Int.mul_comm] at this
              omega
            subst hkN
            have hqT : sq.q = T := by
              rw [HF.out] at h3
              exact top_sum HSM.out HPX.out HREL.out h3
            have v9 := hbut.box x9 n9
            have v5 := hbut.box x5 n5
            have hEr := hE.but hbut hw8
            have hz : cmpQ sq.q p.q = 0 := by rw [cmpQ_zero, hqT, hpq]
            have HCM := Lib.hid (cmpR h2.rv (hpa.dk hdig).rv h4 (by rw [hpq]; exact HST.out) (by omega))
            rw [hz] at HCM
            unfold RQ.v at HCM
            have c9 := v9.cell
            have c8 := y8.cell
            have c5 := v5.cell
            clear h1 h2 h3 h4 hz HQ hqT r7 v9 v5 hbut hdig
            go_wp2_with fail
            refine HCM.out.mono ?_
            rintro e w7 ⟨rfl, hE2⟩
            have hE3 := hEr.trans hE2
            clear c9 c8 c5 HCM y8 hEr hE2
            go_wp2_with fail
            refine (HEX.out _).mono ?_
            rintro e w8 ⟨rfl, hE4⟩
            go_wp2
            go_ret
            exact ⟨rfl, hE3.trans hE4⟩
    · have d1 : (rule != 1) = true := by simp; omega
      have d2 : (rule != 2) = true := by simp; omega
      clear hr
      go_wp2_with fail
      refine (HEX.out _).mono ?_
      rintro e w2 ⟨rfl, hE2⟩
      go_wp2
      go_ret
      exact ⟨rfl, hE.trans hE2⟩
end Go.Proofs.YtodefmfgoehkhaaGreat
