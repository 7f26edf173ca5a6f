/- The reference's twins: times, Valid, Tiles. -/
import Derived.Test.YtefdheoalonbaaaTileCnt
set_option linter.unusedVariables false
set_option linter.unusedSimpArgs false
namespace Go.Proofs.Ytefdheoalonbaaa
open Go.RowKit Go.Par

set_option maxHeartbeats 400000 in
theorem times_any (n wd : Int) (w : World) (h1 : 0 < n) (h2 : n ≤ 100000) (h3 : 1 ≤ wd) :
    Calls Try.prog 42 #[.int .i64 n, .int .i64 wd] w fun e w' => e = .returned (.int .i64 (timesS n wd)) ∧ w = w' := by
  obtain ⟨t1, t2, _, _⟩ := times_facts h1 h2 h3
  unfold timesS at t1 t2 ⊢
  have q1 : IntKind.i64.wrap (n - 1) = n - 1 := IntWalk.i64_in _ (by omega)
  have q2 : IntKind.i64.wrap ((n - 1).tdiv wd) = (n - 1).tdiv wd := IntWalk.i64_in _ (by omega)
  have q3 : IntKind.i64.wrap ((n - 1).tdiv wd + 1) = (n - 1).tdiv wd + 1 := IntWalk.i64_in _ (by omega)
  have d3 : ¬ wd = 0 := by omega
  clear t1 t2
  go_enter Try.func42, Try.ntmps42
  go_wp2
  go_ret
  exact ⟨rfl, rfl⟩
set_option maxHeartbeats 800000 in
theorem rTileValid_any (x0 y0 x1 y1 wd ht : Int) (w : World) :
    Calls Try.prog 14 #[.agg #[.int .i64 x0, .int .i64 y0, .int .i64 x1, .int .i64 y1], .int .i64 wd, .int .i64 ht] w fun e w' => e = .returned (.bool (validT (x0, y0, x1, y1) wd ht)) ∧ Ext w w' := by
  have HV := Lib.hid (show validT (x0, y0, x1, y1) wd ht = (!rectEmptyS (x0, y0, x1, y1) && decide (1 ≤ wd) && decide (1 ≤ ht) && decide (timesS (x1 - x0) wd * timesS (y1 - y0) ht ≤ 256)) from rfl)
  have HE := Lib.hid (rectEmpty_any x0 y0 x1 y1)
  go_enter Try.func14, Try.ntmps14
  go_wp2_with fail
  apply wp_region_par' 30 (by kernel_rfl) (by kernel_rfl) rfl
  simp only [List.take_succ_cons, List.take_zero, List.drop_succ_cons, List.drop_zero]
  generalize hW : World.drew _ = W
  have hEW : Ext w W := by rw [← hW]; exact (Ext.alloc _ _).trans (Ext.drew _)
  have B2 : Box W w.heap.size 23 #[.int .i64 x0, .int .i64 y0, .int .i64 x1, .int .i64 y1] := by rw [← hW]; exact (Box.new _ _ _).drew
  clear hW
  have k2 := B2.lcell
  cases hv : rectEmptyS (x0, y0, x1, y1)
  · by_cases hw : wd < 1
    · have HR := Lib.hid (show validT (x0, y0, x1, y1) wd ht = false from by rw [HV.out, hv, decide_eq_false (show ¬ 1 ≤ wd by omega)]; rfl)
      have d1 : (1 ≤ wd) = False := eq_false (by omega)
      clear HV hw
      iterate 30
        refine parW_step rfl (fun K hK => ?_)
        apply Exists.intro
        refine ⟨fun z => ?_, ?_⟩
        focus
          go_simp
          first
            | rfl
            | with_reducible exact calls_val (HE.out _)
        go_simp
        refine hK _ ?_
        clear hK K
      refine parW_end (fun z => ?_)
      go_wp2
      go_ret
      exact ⟨ret_eq (by rw [HR.out]; rfl), hEW.later z⟩
    · by_cases hh : ht < 1
      · have HR := Lib.hid (show validT (x0, y0, x1, y1) wd ht = false from by rw [HV.out, hv, decide_eq_false (show ¬ 1 ≤ ht by omega)]; simp)
        have d1 : 1 ≤ wd := by omega
        have d2 : (1 ≤ ht) = False := eq_false (by omega)
        clear HV hw hh
        iterate 30
          refine parW_step rfl (fun K hK => ?_)
          apply Exists.intro
          refine ⟨fun z => ?_, ?_⟩
          focus
            go_simp
            first
              | rfl
              | with_reducible exact calls_val (HE.out _)
          go_simp
          refine hK _ ?_
          clear hK K
        refine parW_end (fun z => ?_)
        go_wp2
        go_ret
        exact ⟨ret_eq (by rw [HR.out]; rfl), hEW.later z⟩
      · obtain ⟨b1, b2, b3, b4, b5, b6⟩ := empty_false hv
        simp only at b1 b2 b3 b4 b5 b6
        obtain ⟨t1, t2, _, _⟩ := times_facts (n := x1 - x0) (w := wd) (by omega) (by omega) (by omega)
        obtain ⟨t3, t4, _, _⟩ := times_facts (n := y1 - y0) (w := ht) (by omega) (by omega) (by omega)
        have HR := Lib.hid (show validT (x0, y0, x1, y1) wd ht = decide (timesS (x1 - x0) wd * timesS (y1 - y0) ht ≤ 256) from by rw [HV.out, hv, decide_eq_true (show 1 ≤ wd by omega), decide_eq_true (show 1 ≤ ht by omega)]; rfl)
        have tb := mul_le (a := 8192) (b := 8192) (x := timesS (x1 - x0) wd) (y := timesS (y1 - y0) ht) (by omega) (by omega) (by omega) (by omega)
        have HT1 := Lib.hid (fun W => times_any (x1 - x0) wd W (by omega) (by omega) (by omega))
        have HT2 := Lib.hid (fun W => times_any (y1 - y0) ht W (by omega) (by omega) (by omega))
        have w1' : IntKind.i64.wrap (x1 - x0) = x1 - x0 := IntWalk.i64_in _ (by omega)
        have w3' : IntKind.i64.wrap (y1 - y0) = y1 - y0 := IntWalk.i64_in _ (by omega)
        generalize timesS (x1 - x0) wd = q1 at *
        generalize timesS (y1 - y0) ht = q2 at *
        have w9' : IntKind.i64.wrap (q1 * q2) = q1 * q2 := IntWalk.i64_in _ (by omega)
        have d1 : 1 ≤ wd := by omega
        have d2 : 1 ≤ ht := by omega
        clear HV t1 t2 t3 t4 tb b1 b2 b3 b4 b5 b6 hw hh
        iterate 30
          refine parW_step rfl (fun K hK => ?_)
          apply Exists.intro
          refine ⟨fun z => ?_, ?_⟩
          focus
            go_simp
            first
              | rfl
              | with_reducible exact calls_val (HE.out _)
              | with_reducible exact calls_same (HT1.out _)
              | with_reducible exact calls_same (HT2.out _)
          go_simp
          refine hK _ ?_
          clear hK K
        refine parW_end (fun z => ?_)
        go_wp2
        go_ret
        exact ⟨ret_eq (by rw [HR.out]; rfl), hEW.later z⟩
  · have HR := Lib.hid (show validT (x0, y0, x1, y1) wd ht = false from by rw [HV.out, hv]; rfl)
    clear HV
    iterate 30
      refine parW_step rfl (fun K hK => ?_)
      apply Exists.intro
      refine ⟨fun z => ?_, ?_⟩
      focus
        go_simp
        first
          | rfl
          | with_reducible exact calls_val (HE.out _)
      go_simp
      refine hK _ ?_
      clear hK K
    refine parW_end (fun z => ?_)
    go_wp2
    go_ret
    exact ⟨ret_eq (by rw [HR.out]; rfl), hEW.later z⟩
/-! ## the tiles of a page, widths cut at 8192 -/
theorem times_small {n w : Int} (h0 : 0 < n) (h1 : n ≤ 8192) (hw : 8192 < w) : timesS n w = 1 ∧ timesS n 8192 = 1 := by
  unfold timesS
  rw [Int.tdiv_eq_zero_of_lt (by omega) (by omega), Int.tdiv_eq_zero_of_lt (by omega) (by omega)]
  exact ⟨rfl, rfl⟩
theorem starts_cut {n w lo : Int} (h0 : 0 < n) (h1 : n ≤ 8192) : timesS n (min w 8192) = timesS n w ∧ startL lo (min w 8192) (timesS n w).toNat = startL lo w (timesS n w).toNat := by
  by_cases h : w ≤ 8192
  · rw [show min w 8192 = w by omega]; exact ⟨rfl, rfl⟩
  · obtain ⟨e1, e2⟩ := times_small h0 h1 (show 8192 < w by omega)
    rw [show min w 8192 = 8192 by omega, e1, e2]
    exact ⟨rfl, by simp [startL]⟩
theorem startL_mem {lo w x : Int} {m : Nat} (hx : x ∈ startL lo w m) (hw : 0 ≤ w) : lo ≤ x := by
  unfold startL at hx
  obtain ⟨k, _, rfl⟩ := List.mem_map.1 hx
  have := Int.mul_nonneg (Int.natCast_nonneg k) hw
  omega
theorem rows_cut {r : R4} {w h : Int} (hem : rectEmptyS r = false) (hw : 1 ≤ w) (hh : 1 ≤ h) :
    rowsOf r.1 r.2.2.1 r.2.2.2 (min w 8192) (min h 8192) (timesS (r.2.2.1 - r.1) (min w 8192)).toNat (startL r.2.1 (min h 8192) (timesS (r.2.2.2 - r.2.1) (min h 8192)).toNat) =
    rowsOf r.1 r.2.2.1 r.2.2.2 w h (timesS (r.2.2.1 - r.1) w).toNat (startL r.2.1 h (timesS (r.2.2.2 - r.2.1) h).toNat) := by
  obtain ⟨b1, b2, b3, b4, b5, b6⟩ := empty_false hem
  obtain ⟨e1, e2⟩ := starts_cut (n := r.2.2.1 - r.1) (w := w) (lo := r.1) (by omega) (by omega)
  obtain ⟨e3, e4⟩ := starts_cut (n := r.2.2.2 - r.2.1) (w := h) (lo := r.2.1) (by omega) (by omega)
  rw [e1, e3, e4]
  unfold rowsOf
  rw [e2]
  have hy : ∀ y ∈ startL r.2.1 h (timesS (r.2.2.2 - r.2.1) h).toNat, (startL r.1 w (timesS (r.2.2.1 - r.1) w).toNat).map (rectOf r.2.2.1 r.2.2.2 (min w 8192) (min h 8192) y) = (startL r.1 w (timesS (r.2.2.1 - r.1) w).toNat).map (rectOf r.2.2.1 r.2.2.2 w h y) := by
    intro y hy
    have := startL_mem hy (by omega)
    refine List.map_congr_left fun x hx => ?_
    have := startL_mem hx (by omega)
    unfold rectOf
    rw [show min (min w 8192) (r.2.2.1 - x) = min w (r.2.2.1 - x) by omega, show min (min h 8192) (r.2.2.2 - y) = min h (r.2.2.2 - y) by omega]
  clear e1 e2 e3 e4
  generalize startL r.2.1 h (timesS (r.2.2.2 - r.2.1) h).toNat = ys at *
  induction ys with
  | nil => rfl
  | cons y ys ih => rw [List.flatMap_cons, List.flatMap_cons, hy y (List.mem_cons_self ..), ih fun z hz => hy z (List.mem_cons_of_mem _ hz)]
theorem rowsOf_snoc (x0 x1 y1 wd ht y0 : Int) (mx j : Nat) : rowsOf x0 x1 y1 wd ht mx (startL y0 ht (j + 1)) = rowsOf x0 x1 y1 wd ht mx (startL y0 ht j) ++ (startL x0 wd mx).map (rectOf x1 y1 wd ht (y0 + (j : Int) * ht)) := by
  rw [startL_succ]
  unfold rowsOf
  rw [List.flatMap_append]
  simp
theorem map_snoc {α : Type} (lo by_ : Int) (k : Nat) (f : Int → α) : (startL lo by_ (k + 1)).map f = (startL lo by_ k).map f ++ [f (lo + (k : Int) * by_)] := by
  rw [startL_succ, List.map_append]; rfl
theorem rectE_one {w : World} {b : Nat} {a1 a2 a3 a4 : Int} (h : Box w b 23 #[.int .i64 a1, .int .i64 a2, .int .i64 a3, .int .i64 a4]) : rectE.Row w (.slice (some ⟨b, 0, none⟩) 1 1) [(a1, a2, a3, a4)] :=
  ⟨_, _, rfl, Nat.le_refl _, (by simp), EL.At.box h fun j v hv => by simpa [EL.cells, rectE] using hv⟩
theorem _root_.Go.Par.EL.Own.ne {P : Program} {α : Type} {E : EL P α} {w : World} {B c : Nat} {v : Value} {l : List α} (h : E.Own w B v l) (hc : c < B) : v.ownBlock ≠ some c := by
  rcases h.block with e | ⟨g, e, hgg⟩
  · rw [e]; simp
  · rw [e]; intro e'; injection e' with e'; omega
set_option maxRecDepth 100000 in
set_option maxHeartbeats 1600000 in
theorem rTiles_any (x0 y0 x1 y1 wd ht : Int) (w : World) (hv : validT (x0, y0, x1, y1) wd ht = true) :
    Calls Try.prog 44 #[.agg #[.int .i64 x0, .int .i64 y0, .int .i64 x1, .int .i64 y1], .int .i64 wd, .int .i64 ht] w fun e w' => ∃ v, e = .returned v ∧ Ext w w' ∧ rectE.Own w' w.heap.size v (allT (x0, y0, x1, y1) wd ht) := by
  have HR := Lib.hid (show allT (x0, y0, x1, y1) wd ht = rowsOf x0 x1 y1 wd ht (timesS (x1 - x0) wd).toNat (startL y0 ht (timesS (y1 - y0) ht).toNat) from by unfold allT; rw [hv]; rfl)
  obtain ⟨hem, hw1, hh1, hprod⟩ := validT_true hv
  have hcut := rows_cut hem hw1 hh1
  have hle := allT_le (x0, y0, x1, y1) wd ht
  have hlen := allT_length hv
  simp only at hprod hcut hlen
  obtain ⟨b1, b2, b3, b4, b5, b6⟩ := empty_false hem
  simp only at b1 b2 b3 b4 b5 b6
  rw [← hcut] at HR
  clear hcut hv
  have e1 := (starts_cut (n := x1 - x0) (w := wd) (lo := x0) (by omega) (by omega)).1
  have e2 := (starts_cut (n := y1 - y0) (w := ht) (lo := y0) (by omega) (by omega)).1
  rw [e1, e2] at HR
  have hx := times_facts (n := x1 - x0) (w := min wd 8192) (by omega) (by omega) (by omega)
  have hy := times_facts (n := y1 - y0) (w := min ht 8192) (by omega) (by omega) (by omega)
  have hxl := (times_list (n := x1 - x0) (w := min wd 8192) (lo := x0) (by omega) (by omega) (by omega))
  have hyl := (times_list (n := y1 - y0) (w := min ht 8192) (lo := y0) (by omega) (by omega) (by omega))
  rw [e1] at hx hxl
  rw [e2] at hy hyl
  rw [show x0 + (x1 - x0) = x1 by omega] at hxl
  rw [show y0 + (y1 - y0) = y1 by omega] at hyl
  have dw : (wd < 1) = False := eq_false (by omega)
  have dh : (ht < 1) = False := eq_false (by omega)
  have hm1 : (if (8192 : Int) < wd then 8192 else wd) = min wd 8192 := by split <;> omega
  have hm2 : (if (8192 : Int) < ht then 8192 else ht) = min ht 8192 := by split <;> omega
  have HE := Lib.hid (show ∀ W, Calls Try.prog 30 #[.agg #[.int .i64 x0, .int .i64 y0, .int .i64 x1, .int .i64 y1]] W fun e w' => e = .returned (.bool false) ∧ Ext W w' from by rw [← hem]; exact rectEmpty_any x0 y0 x1 y1)
  obtain ⟨mx, hmx⟩ : ∃ m : Nat, m = (timesS (x1 - x0) wd).toNat := ⟨_, rfl⟩
  obtain ⟨my, hmy⟩ : ∃ m : Nat, m = (timesS (y1 - y0) ht).toNat := ⟨_, rfl⟩
  rw [← hmx, ← hmy] at HR hlen
  rw [← hmx] at hxl
  rw [← hmy] at hyl
  have g1 : mx ≤ 8192 := by omega
  have g2 : my ≤ 8192 := by omega
  clear hmx hmy hx hy hem hprod e1 e2
  obtain ⟨wm, hwm⟩ : ∃ m : Int, m = min wd 8192 := ⟨_, rfl⟩
  obtain ⟨hm, hhm⟩ : ∃ m : Int, m = min ht 8192 := ⟨_, rfl⟩
  have k1 : 1 ≤ wm := by omega
  have k2 : wm ≤ 8192 := by omega
  have k3 : 1 ≤ hm := by omega
  have k4 : hm ≤ 8192 := by omega
  rw [← hwm] at hm1 HR hxl
  rw [← hhm] at hm2 HR hyl
  rw [hlen] at hle
  clear hwm hhm hlen hw1 hh1
  have HX := Lib.hid hxl
  have HY := Lib.hid hyl
  clear hxl hyl
  go_enter Try.func44, Try.ntmps44
  go_wp2_with fail
  refine (HE.out _).mono ?_
  rintro e w1 ⟨rfl, hE⟩
  have bR := ((Box.new w 23 #[.int .i64 x0, .int .i64 y0, .int .i64 x1, .int .i64 y1]).alloc (.cells #[] 23)).ext hE
  have hE0 := ((Ext.alloc w (.cells #[.int .i64 x0, .int .i64 y0, .int .i64 x1, .int .i64 y1] 23)).trans (Ext.alloc _ (.cells #[] 23))).trans hE
  have hown0 : rectE.Own w1 (w.heap.size + 1) (.slice (some ⟨w.heap.size + 1, 0, none⟩) 0 0) [] := by
    have := (EL.Own.made (E := rectE) (w.alloc (.cells #[.int .i64 x0, .int .i64 y0, .int .i64 x1, .int .i64 y1] 23))).ext hE
    simpa using this
  have hsz1 : w.heap.size + 2 ≤ w1.heap.size := by
    have := hE.size
    simp at this
    omega
  have cR := bR.cell
  clear hE
  go_wp2_with fail
  go_loopw [7, 8, 9] (fun s yv _ wr => ∃ (j : Nat) (y : Int), j ≤ my ∧ yv = .int .i64 y ∧ Hid (y = y0 + (j : Int) * hm) ∧ y0 ≤ y ∧ y ≤ 12288 ∧ Ext w wr ∧ w.heap.size + 2 ≤ wr.heap.size ∧ Box wr w.heap.size 23 #[.int .i64 x0, .int .i64 y0, .int .i64 x1, .int .i64 y1] ∧ rectE.Own wr (w.heap.size + 1) s (rowsOf x0 x1 y1 wm hm mx (startL y0 hm j))) (fun _ yv _ _ => (y1 - intOf yv).toNat)
  case atStart => exact ⟨0, y0, Nat.zero_le _, rfl, Lib.hid (by simp), Int.le_refl _, by omega, hE0, hsz1, bR, by simpa [startL, rowsOf] using hown0⟩
  case round =>
    obtain ⟨j, y, hj, rfl, HYV, hy0, hy2, hE, hsz, bR', hown⟩ := hrel
    clear cR bR hE0 hown0 hsz1
    have cR := bR'.cell
    by_cases hlt : j < my
    · have hyy : y < y1 := by rw [HYV.out]; exact HY.out.1 j hlt
      have q3 : IntKind.i64.wrap (y + hm) = y + hm := IntWalk.i64_in _ (by omega)
      have HYV' := Lib.hid (show y + hm = y0 + ((j + 1 : Nat) : Int) * hm from by rw [HYV.out]; push_cast; rw [Int.add_mul]; omega)
      have hm3 : (if y1 < y + hm then y1 else y + hm) = y + min hm (y1 - y) := by split <;> omega
      clear q3
      go_wp2_with fail
      clear cR
      generalize hwo : wr = wo at *
      go_loopw [7, 9] (fun s xv wr => ∃ (k : Nat) (x : Int), k ≤ mx ∧ xv = .int .i64 x ∧ Hid (x = x0 + (k : Int) * wm) ∧ x0 ≤ x ∧ x ≤ 12288 ∧ Ext w wr ∧ w.heap.size + 2 ≤ wr.heap.size ∧ Box wr w.heap.size 23 #[.int .i64 x0, .int .i64 y0, .int .i64 x1, .int .i64 y1] ∧ rectE.Own wr (w.heap.size + 1) s (rowsOf x0 x1 y1 wm hm mx (startL y0 hm j) ++ (startL x0 wm k).map (rectOf x1 y1 wm hm y))) (fun _ xv _ => (x1 - intOf xv).toNat)
      case atStart => exact ⟨0, x0, Nat.zero_le _, rfl, Lib.hid (by simp), Int.le_refl _, by omega, hE, hsz, bR', by simpa [startL] using hown⟩
      case round =>
        obtain ⟨k, x, hk, rfl, HXV, hx0, hx2, hE2, hsz2, bR2, hown2⟩ := hrel
        have cR := bR2.cell
        by_cases hltx : k < mx
        · have hxx : x < x1 := by rw [HXV.out]; exact HX.out.1 k hltx
          have q3 : IntKind.i64.wrap (y + hm) = y + hm := IntWalk.i64_in _ (by omega)
          have q4 : IntKind.i64.wrap (x + wm) = x + wm := IntWalk.i64_in _ (by omega)
          have HXV' := Lib.hid (show x + wm = x0 + ((k + 1 : Nat) : Int) * wm from by rw [HXV.out]; push_cast; rw [Int.add_mul]; omega)
          have hm4 : (if x1 < x + wm then x1 else x + wm) = x + min wm (x1 - x) := by split <;> omega
          have hlen : (rowsOf x0 x1 y1 wm hm mx (startL y0 hm j) ++ (startL x0 wm k).map (rectOf x1 y1 wm hm y)).length + 1 ≤ 1000000000 := by
            rw [List.length_append, rowsOf_length, List.length_map, startL_length, startL_length]
            have := cell_lt hlt hltx
            omega
          have HS := Lib.hid (show (startL x0 wm (k + 1)).map (rectOf x1 y1 wm hm y) = (startL x0 wm k).map (rectOf x1 y1 wm hm y) ++ [(x, y, x + min wm (x1 - x), y + min hm (y1 - y))] from by rw [map_snoc, ← HXV.out]; rfl)
          generalize hp : x + min wm (x1 - x) = p at *
          generalize hq : y + min hm (y1 - y) = q at *
          go_wp2_with (at_builtin; refine EL.wpApp rectE rfl _ _ rfl (w.heap.size + 1) _ _ _ _ rfl rfl (hown2.ext (Ext.alloc _ _)) (rectE_one (Box.new _ _ _)) hlen (by simp; omega) ?_; intro v' w' hown' hg _)
          have hE3 := growExt (hE2.trans (Ext.alloc _ _)) (hown2.ext (Ext.alloc _ _)) (Nat.le_succ _) hg
          have hb3 := boxGrown (bR2.alloc _) hg (hown2.ne (Nat.lt_succ_self _))
          have hs3 := hg.size
          go_roundw
          case rel => exact ⟨k + 1, x + wm, by omega, by go_num, HXV', by omega, by omega, hE3, by simp at hs3; omega, hb3, by rw [HS.out, ← List.append_assoc]; exact hown'⟩
          case measure => simp [intOf]; omega
        · have hxx : (x < x1) = False := by
            have h2 := HX.out.2
            rw [← show k = mx by omega, ← HXV.out] at h2
            exact eq_false (by omega)
          have q3 : IntKind.i64.wrap (y + hm) = y + hm := IntWalk.i64_in _ (by omega)
          have HS := Lib.hid (show rowsOf x0 x1 y1 wm hm mx (startL y0 hm (j + 1)) = rowsOf x0 x1 y1 wm hm mx (startL y0 hm j) ++ (startL x0 wm k).map (rectOf x1 y1 wm hm y) from by rw [rowsOf_snoc, ← HYV.out, show k = mx by omega])
          go_wp2
          go_roundw
          case rel => exact ⟨j + 1, y + hm, by omega, by go_num, HYV', by omega, by omega, hE2, hsz2, bR2, by rw [HS.out]; exact hown2⟩
          case measure => simp [intOf]; omega
    · have hyy : (y < y1) = False := by
        have h2 := HY.out.2
        rw [← show j = my by omega, ← HYV.out] at h2
        exact eq_false (by omega)
      have ej : j = my := by omega
      subst ej
      go_wp2
      go_ret
      exact ⟨_, rfl, hE, by rw [HR.out]; exact hown.lower (Nat.le_succ _)⟩
end Go.Proofs.Ytefdheoalonbaaa
