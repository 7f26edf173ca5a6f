/- The reference's Valid at bitmaps. -/
import Derived.Test.YtefdheoalonbaaaBmV
set_option linter.unusedVariables false
set_option linter.unusedSimpArgs false
namespace Go.Proofs.Ytefdheoalonbaaa
open Go.RowKit Go.Par

set_option maxRecDepth 100000 in
set_option maxHeartbeats 1600000 in
theorem rBmValid_any (x0 y0 x1 y1 : Int) (A : Option Addr) (c n : Nat) (l : List P4) (w : World) (hn : l.length = n) (hb : n ≤ 17592186044416) (h : pixE.At w A l) :
    Calls Try.prog 48 #[.agg #[.int .i64 x0, .int .i64 y0, .int .i64 x1, .int .i64 y1, .slice A n c]] w fun e w' => e = .returned (.bool (bmOk ((x0, y0, x1, y1), l))) ∧ Ext w w' := by
  have HV := Lib.hid (show bmOk ((x0, y0, x1, y1), l) = (decide (rectCanonS (x0, y0, x1, y1) = (x0, y0, x1, y1)) && decide (areaR (x0, y0, x1, y1) ≤ 65536) && decide ((n : Int) = areaR (x0, y0, x1, y1)) && l.all pxOk) from by rw [← hn]; rfl)
  have HA := Lib.hid (fun W => rArea_any x0 y0 x1 y1 W)
  have HC := Lib.hid (fun W => rectCanon_any x0 y0 x1 y1 W)
  have HN := Lib.hid hn
  have ab := areaR_bd (x0, y0, x1, y1)
  clear hn
  generalize areaR (x0, y0, x1, y1) = ar at *
  generalize hcn : rectCanonS (x0, y0, x1, y1) = q at *
  obtain ⟨q0, q1, q2, q3⟩ := q
  unfold rectV at HC
  have b1 := Box.new w 34 #[.int .i64 x0, .int .i64 y0, .int .i64 x1, .int .i64 y1, .slice A n c]
  have hE := Ext.alloc w (.cells #[.int .i64 x0, .int .i64 y0, .int .i64 x1, .int .i64 y1, .slice A n c] 34)
  go_enter Try.func48, Try.ntmps48
  go_wp2_with fail
  apply wp_region_par' 21 (by kernel_rfl) (by kernel_rfl) rfl
  simp only [List.take_succ_cons, List.take_zero, List.drop_succ_cons, List.drop_zero]
  generalize hW : World.drew _ = W
  replace hE : Ext w W := by rw [← hW]; exact hE.trans (Ext.drew _)
  replace b1 : Box W w.heap.size 34 #[.int .i64 x0, .int .i64 y0, .int .i64 x1, .int .i64 y1, .slice A n c] := by rw [← hW]; exact b1.drew
  clear hW
  have k1 := b1.lcell
  by_cases hq : q0 = x0 ∧ q1 = y0 ∧ q2 = x1 ∧ q3 = y1
  · obtain ⟨rfl, rfl, rfl, rfl⟩ := hq
    by_cases ha : ar ≤ 65536
    · by_cases hl : (n : Int) = ar
      · have HR := Lib.hid (show bmOk ((q0, q1, q2, q3), l) = l.all pxOk from by rw [HV.out, hl, decide_eq_true ha]; simp)
        have d2 : ((65536 : Int) < ar) = False := eq_false (by omega)
        have d4 : ((n : Int) != ar) = false := by simp [hl]
        have d3 : ((n : Int) == ar) = true := by simp [hl]
        have d3' : decide ((n : Int) = ar) = true := by simp [hl]
        clear hl HV hcn
        iterate 21
          refine parW_step rfl (fun K hK => ?_)
          apply Exists.intro
          refine ⟨fun z => ?_, ?_⟩
          focus
            go_simp
            first
              | rfl
              | with_reducible exact calls_val (HC.out _)
              | with_reducible exact calls_val (HA.out _)
          go_simp
          refine hK _ ?_
          clear hK K
        refine parW_end (fun z => ?_)
        replace hE := hE.later z
        replace b1 := b1.later z
        generalize z.val = Z at *
        clear k1 z HA HC
        go_wp2_with fail
        clear d2 d3 d3'
        go_loopw [2, 3] (fun _ i wr => ∃ j : Nat, j ≤ n ∧ i = .int .i64 j ∧ Ext Z wr ∧ Hid (∀ k, k < j → ∀ q, l[k]? = some q → pxOk q = true)) (fun _ i _ => n - (intOf i).toNat)
        case atStart => exact ⟨0, Nat.zero_le _, rfl, Ext.refl _, Lib.hid (fun k hk => absurd hk (by omega))⟩
        case round =>
          obtain ⟨j, hj, rfl, hE2, HT⟩ := hrel
          have c1 := (b1.ext hE2).cell
          by_cases hlt : j < n
          · have dj : ((j : Int) < (n : Int)) = True := eq_true (by omega)
            obtain ⟨⟨r, g, b, a⟩, hlx⟩ : ∃ q, l[j]? = some q := ⟨_, List.getElem?_eq_getElem (by rw [HN.out]; exact hlt)⟩
            obtain ⟨bb, o, rfl, hcell⟩ := h (fun e => by rw [e] at hlx; simp at hlx)
            obtain ⟨e0, e1, e2, e3⟩ := pix_cells hcell hlx
            have hEE := hE.trans hE2
            replace e0 := hEE.cell e0
            replace e1 := hEE.cell e1
            replace e2 := hEE.cell e2
            replace e3 := hEE.cell e3
            have HX := Lib.hid hlx
            clear hcell hlx
            have HP := Lib.hid (fun W => rPxValid_any r g b a W)
            go_wp2_with fail
            refine (HP.out _).mono ?_
            rintro e w1 ⟨rfl, hE1⟩
            cases hp : pxOk (r, g, b, a)
            · have HS := Lib.hid (show l.all pxOk = false from by
                rw [List.all_eq_false]
                exact ⟨_, List.mem_of_getElem? HX.out, by rw [hp]; simp⟩)
              clear hp HT
              go_wp2
              go_ret
              exact ⟨ret_eq (by rw [HR.out, HS.out]; rfl), hEE.trans hE1⟩
            · have HS := Lib.hid (show ∀ k, k < j + 1 → ∀ q, l[k]? = some q → pxOk q = true from fun k hk q hq => by
                by_cases hkj : k < j
                · exact HT.out k hkj q hq
                · have : k = j := by omega
                  subst this
                  rw [HX.out] at hq
                  injection hq with hq
                  rw [← hq, hp])
              clear hp HT
              go_wp2_with fail
              go_roundw
              case rel => exact ⟨j + 1, by omega, by go_num, hE2.trans hE1, HS⟩
              case measure => simp [intOf]; omega
          · have HS := Lib.hid (show l.all pxOk = true from List.all_eq_true.2 fun q hq => by
              obtain ⟨k, hk⟩ := List.mem_iff_getElem?.1 hq
              exact HT.out k (by have := (List.getElem?_eq_some_iff.1 hk).1; rw [HN.out] at this; omega) q hk)
            have d3 : ((j : Int) < (n : Int)) = False := eq_false (by omega)
            clear HT
            go_wp2
            go_ret
            exact ⟨ret_eq (by rw [HR.out, HS.out]; rfl), hE.trans hE2⟩
      · have HR := Lib.hid (show bmOk ((q0, q1, q2, q3), l) = false from by rw [HV.out, decide_eq_false hl]; simp)
        have d2 : ((65536 : Int) < ar) = False := eq_false (by omega)
        have d3 : ((n : Int) == ar) = false := by simp [hl]
        have d3' : decide ((n : Int) = ar) = false := by simp [hl]
        clear hl HV hcn
        iterate 21
          refine parW_step rfl (fun K hK => ?_)
          apply Exists.intro
          refine ⟨fun z => ?_, ?_⟩
          focus
            go_simp
            first
              | rfl
              | with_reducible exact calls_val (HC.out _)
              | with_reducible exact calls_val (HA.out _)
          go_simp
          refine hK _ ?_
          clear hK K
        refine parW_end (fun z => ?_)
        go_wp2
        go_ret
        exact ⟨ret_eq (by rw [HR.out]; rfl), hE.later z⟩
    · have HR := Lib.hid (show bmOk ((q0, q1, q2, q3), l) = false from by rw [HV.out, decide_eq_false ha]; simp)
      have d2 : ((65536 : Int) < ar) = True := eq_true (by omega)
      clear ha HV hcn
      iterate 21
        refine parW_step rfl (fun K hK => ?_)
        apply Exists.intro
        refine ⟨fun z => ?_, ?_⟩
        focus
          go_simp
          first
            | rfl
            | with_reducible exact calls_val (HC.out _)
            | with_reducible exact calls_val (HA.out _)
        go_simp
        refine hK _ ?_
        clear hK K
      refine parW_end (fun z => ?_)
      go_wp2
      go_ret
      exact ⟨ret_eq (by rw [HR.out]; rfl), hE.later z⟩
  · have HR := Lib.hid (show bmOk ((x0, y0, x1, y1), l) = false from by
      rw [HV.out, decide_eq_false (show ¬ (q0, q1, q2, q3) = (x0, y0, x1, y1) from fun e => hq (by simpa using e))]; simp)
    have d1 : (decide (q0 = x0) && (decide (q1 = y0) && (decide (q2 = x1) && decide (q3 = y1)))) = false := by
      rw [Bool.eq_false_iff]; intro e; apply hq; simpa using e
    have d2 : (¬q0 = x0 ∨ ¬q1 = y0 ∨ ¬q2 = x1 ∨ ¬q3 = y1) = True := eq_true (by omega)
    clear hq HV hcn
    iterate 21
      refine parW_step rfl (fun K hK => ?_)
      apply Exists.intro
      refine ⟨fun z => ?_, ?_⟩
      focus
        go_simp
        first
          | rfl
          | with_reducible exact calls_val (HC.out _)
          | with_reducible exact calls_val (HA.out _)
      go_simp
      refine hK _ ?_
      clear hK K
    refine parW_end (fun z => ?_)
    go_wp2
    go_ret
    exact ⟨ret_eq (by rw [HR.out]; rfl), hE.later z⟩
end Go.Proofs.Ytefdheoalonbaaa
