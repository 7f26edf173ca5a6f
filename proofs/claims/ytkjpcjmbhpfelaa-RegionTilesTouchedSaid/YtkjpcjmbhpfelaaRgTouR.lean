/- TilesTouched of the reference. -/
import Derived.Test.YtkjpcjmbhpfelaaRgTileR
set_option linter.unusedVariables false
set_option linter.unusedSimpArgs false
namespace Go.Proofs.Ytkjpcjmbhpfelaa
open Go.RowKit Go.Par Go.Reg

set_option maxRecDepth 100000 in
set_option maxHeartbeats 3200000 in
theorem rTouched_any (l : List R4) (A : Option Addr) (n c : Nat) (r0 r1 r2 r3 wd ht : Int) (w : World) (hn : l.length = n) (hnb : n ≤ 1000000) (hl : (tileL (r0, r1, r2, r3) wd ht).length ≤ 67108864) (hA : rectE.At w A l) :
    Calls Try.prog 36 #[.slice A n c, .agg #[.int .i64 r0, .int .i64 r1, .int .i64 r2, .int .i64 r3], .int .i64 wd, .int .i64 ht] w fun e w' => ∃ v, e = .returned v ∧ Ext w w' ∧ intE.Own w' w.heap.size v (touchTo (tileL (r0, r1, r2, r3) wd ht) l (tileL (r0, r1, r2, r3) wd ht).length) := by
  have HTI := Lib.hid (fun W => rTiles_any r0 r1 r2 r3 wd ht W)
  have HIN := Lib.hid (fun a b c d p q r s W => rInter_any a b c d p q r s W)
  have HEM := Lib.hid (fun a b c d W => rectEmpty_any a b c d W)
  have HN := Lib.hid hn
  clear hn
  generalize tileL (r0, r1, r2, r3) wd ht = TL at *
  have hE0 := (Ext.alloc w (.cells #[.int .i64 r0, .int .i64 r1, .int .i64 r2, .int .i64 r3] 29)).trans (Ext.alloc _ (.cells #[] 3))
  have b3 := (Box.new w 29 #[.int .i64 r0, .int .i64 r1, .int .i64 r2, .int .i64 r3]).alloc (.cells #[] 3)
  have hown0 : intE.Own ((w.alloc (.cells #[.int .i64 r0, .int .i64 r1, .int .i64 r2, .int .i64 r3] 29)).alloc (.cells #[] 3)) (w.heap.size + 1) (.slice (some ⟨w.heap.size + 1, 0, none⟩) 0 0) [] := by
    have h := (EL.Own.made (E := intE) (w.alloc (.cells #[.int .i64 r0, .int .i64 r1, .int .i64 r2, .int .i64 r3] 29)))
    simp only [heap_alloc_push, Array.size_push] at h
    exact h
  have c3 := b3.cell
  go_enter Try.func36, Try.ntmps36
  go_wp2_with fail
  generalize hW0 : World.alloc (World.alloc w _) _ = W0 at *
  have hsz0 : W0.heap.size = w.heap.size + 2 := by rw [← hW0]; simp
  clear hW0
  obtain ⟨B, hB⟩ : ∃ B, w.heap.size = B := ⟨_, rfl⟩
  have HB := Lib.hid hB
  rw [hB] at b3 c3 hown0 hsz0 ⊢
  clear hB
  refine (HTI.out _).mono ?_
  rintro e w1 ⟨v, rfl, hE1, hownT⟩
  have hszw : B + 1 ≤ w1.heap.size := by have := hE1.size; omega
  replace hE0 := hE0.trans hE1
  replace hown0 := hown0.ext hE1
  obtain ⟨N, hN⟩ : ∃ N, TL.length = N := ⟨_, rfl⟩
  rw [hN] at hl
  obtain ⟨A7, c7, rfl, _, _⟩ := hownT.at hN (by omega)
  have hat := EL.BoxAt.of_own hownT
  have HTN := Lib.hid hN
  clear hN hownT hE1 b3 c3 HTI
  go_wp2_with fail
  go_loopw [9, 11, 12] (fun s i _ wr => ∃ t : Nat, t ≤ N ∧ i = .int .i64 t ∧ Ext w wr ∧ Hid (B + 1 ≤ wr.heap.size) ∧ rectE.BoxAt wr A7 TL ∧ intE.Own wr (B + 1) s (touchTo TL l t)) (fun _ i _ _ => N - (intOf i).toNat)
  case atStart => exact ⟨0, Nat.zero_le _, rfl, hE0, Lib.hid hszw, hat, hown0⟩
  case round =>
    clear hE0 hown0 hat hszw
    obtain ⟨t, htn, rfl, hE, HSZ, hat, hown⟩ := hrel
    by_cases hlt : t < N
    · have dt : ((t : Int) < (N : Int)) = True := eq_true (by omega)
      obtain ⟨⟨t0, t1, t2, t3⟩, hlt0⟩ : ∃ q, TL[t]? = some q := ⟨_, List.getElem?_eq_getElem (by rw [HTN.out]; exact hlt)⟩
      obtain ⟨bt, ot, rfl⟩ := hat.at.addr hlt0
      have HLT := Lib.hid hlt0
      have HSUC := Lib.hid (touchTo_succ (l := l) hlt0)
      have HTO := Lib.hid (touchTo_len TL l t)
      generalize touchTo TL l t = cur at *
      clear hlt0
      go_wp2_with fail
      go_loopw [9, 12] (fun s k wr => ∃ j : Nat, j ≤ n ∧ k = .int .i64 j ∧ Ext w wr ∧ Hid (B + 1 ≤ wr.heap.size) ∧ rectE.BoxAt wr (some ⟨bt, ot, none⟩) TL ∧ intE.Own wr (B + 1) s cur ∧ Hid (tch (l.take j) (t0, t1, t2, t3) = false)) (fun _ k _ => n - (intOf k).toNat)
      case atStart => exact ⟨0, Nat.zero_le _, rfl, hE, HSZ, hat, hown, Lib.hid rfl⟩
      case round =>
        clear hE HSZ hat hown
        obtain ⟨j, hj, rfl, hE, HSZ, hat, hown, HF⟩ := hrel
        by_cases hlt2 : j < n
        · have dj : ((j : Int) < (n : Int)) = True := eq_true (by omega)
          obtain ⟨⟨q0, q1, q2, q3⟩, hlq⟩ : ∃ q, l[j]? = some q := ⟨_, List.getElem?_eq_getElem (by rw [HN.out]; exact hlt2)⟩
          obtain ⟨bq, oq, rfl⟩ := hA.addr hlq
          obtain ⟨e0, e1, e2, e3⟩ := rect_cell hA hlq
          replace e0 := hE.cell e0
          replace e1 := hE.cell e1
          replace e2 := hE.cell e2
          replace e3 := hE.cell e3
          obtain ⟨f0, f1, f2, f3⟩ := rect_cell hat.at HLT.out
          dsimp only at e0 e1 e2 e3 f0 f1 f2 f3
          have HT1 := Lib.hid (show tch (l.take (j + 1)) (t0, t1, t2, t3) = !rectEmptyS (interS (t0, t1, t2, t3) (q0, q1, q2, q3)) from by
            have h0 := HF.out
            unfold tch at h0 ⊢
            rw [take_snocG hlq, List.any_append, h0]; simp)
          have HT2 := Lib.hid (show rectEmptyS (interS (t0, t1, t2, t3) (q0, q1, q2, q3)) = false → tch l (t0, t1, t2, t3) = true from fun h => List.any_eq_true.2 ⟨_, List.mem_of_getElem? hlq, by rw [h]; rfl⟩)
          have HIN' := Lib.hid (fun W => HIN.out t0 t1 t2 t3 q0 q1 q2 q3 W)
          generalize interS (t0, t1, t2, t3) (q0, q1, q2, q3) = u at *
          obtain ⟨u0, u1, u2, u3⟩ := u
          unfold rectV at HIN'
          have HEM' := Lib.hid (fun W => HEM.out u0 u1 u2 u3 W)
          generalize rectEmptyS (u0, u1, u2, u3) = em at *
          clear hlq
          go_wp2_with fail
          apply wp_region_par' 11 (by kernel_rfl) (by kernel_rfl) rfl
          simp only [List.take_succ_cons, List.take_zero, List.drop_succ_cons, List.drop_zero]
          generalize hW : World.drew _ = W
          have hEW : Ext wr W := by rw [← hW]; exact Ext.drew _
          clear hW
          have z0 := fun z : Later W => z.cell (hEW.cell e0)
          have z1 := fun z : Later W => z.cell (hEW.cell e1)
          have z2 := fun z : Later W => z.cell (hEW.cell e2)
          have z3 := fun z : Later W => z.cell (hEW.cell e3)
          have z4 := fun z : Later W => z.cell (hEW.cell f0)
          have z5 := fun z : Later W => z.cell (hEW.cell f1)
          have z6 := fun z : Later W => z.cell (hEW.cell f2)
          have z7 := fun z : Later W => z.cell (hEW.cell f3)
          iterate 11
            refine parW_step rfl (fun K hK => ?_)
            apply Exists.intro
            refine ⟨fun z => ?_, ?_⟩
            focus
              go_simp
              first
                | rfl
                | with_reducible exact calls_val (HIN'.out _)
                | with_reducible exact calls_val (HEM'.out _)
            go_simp
            refine hK _ ?_
            clear hK K
          refine parW_end (fun z => ?_)
          have hEz := hEW.later z
          clear z0 z1 z2 z3 z4 z5 z6 z7 e0 e1 e2 e3 f0 f1 f2 f3
          replace hE := hE.trans hEz
          replace hat := hat.ext hEz
          replace hown := hown.ext hEz
          replace HSZ := Lib.hid (Nat.le_trans HSZ.out hEz.size)
          generalize z.val = Z at *
          clear z hEz hEW
          cases em
          · have HTT := Lib.hid (HT2.out rfl)
            have hEa := hE.trans (Ext.alloc Z (.cells #[.int .i64 t] 3))
            have hownA := hown.ext (Ext.alloc Z (.cells #[.int .i64 t] 3))
            have hatA := hat.ext (Ext.alloc Z (.cells #[.int .i64 t] 3))
            have hrow := EL.rowOne (E := intE) (Box.new Z 3 #[.int .i64 t]) rfl
            have hsz : B + 1 ≤ (Z.alloc (.cells #[.int .i64 t] 3)).heap.size := Nat.le_trans HSZ.out (Ext.alloc Z (.cells #[.int .i64 t] 3)).size
            have hll : cur.length + ([(t : Int)] : List Int).length ≤ 1000000000 := by have := HTO.out; simp only [List.length_singleton]; omega
            go_wp2_with (at_builtin; refine EL.wpApp intE rfl _ _ rfl (B + 1) _ _ cur [(t : Int)] rfl rfl hownA hrow hll hsz ?_; intro v1 W1 own1 gr1 _)
            have hE5 := growExt hEa hownA (by rw [HB.out]; omega) gr1
            have hat5 := hatA.grown hownA (by decide) gr1
            have HS5 := Lib.hid (Nat.le_trans hsz gr1.size)
            go_roundw
            case rel => exact ⟨t + 1, by omega, by go_num, hE5, HS5, hat5, by rw [HSUC.out, HTT.out]; exact own1⟩
            case measure => simp [intOf]; omega
          · go_wp2
            go_roundw
            case rel => exact ⟨j + 1, by omega, by go_num, hE, HSZ, hat, hown, Lib.hid (by rw [HT1.out]; rfl)⟩
            case measure => simp [intOf]; omega
        · have dj : ((j : Int) < (n : Int)) = False := eq_false (by omega)
          have HTT := Lib.hid (show tch l (t0, t1, t2, t3) = false from by have := HF.out; rwa [List.take_of_length_le (by rw [HN.out]; omega)] at this)
          go_wp2
          go_roundw
          case rel => exact ⟨t + 1, by omega, by go_num, hE, HSZ, hat, by rw [HSUC.out, HTT.out]; simpa using hown⟩
          case measure => simp [intOf]; omega
    · have dt : ((t : Int) < (N : Int)) = False := eq_false (by omega)
      have HTE := Lib.hid (show touchTo TL l t = touchTo TL l TL.length from by rw [HTN.out, show t = N by omega])
      rw [HTE.out] at hown
      go_wp2
      go_ret
      exact ⟨_, rfl, hE, by rw [HB.out]; exact hown.lower (by omega)⟩
end Go.Proofs.Ytkjpcjmbhpfelaa
