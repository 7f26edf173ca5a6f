/- slices.Equal at rectangles and at runs; Rows of the reference. -/
import Derived.Test.YtkjpcjmbhpfelaaRgE
set_option linter.unusedVariables false
set_option linter.unusedSimpArgs false
namespace Go.Proofs.Ytkjpcjmbhpfelaa
open Go.RowKit Go.Par Go.Reg

set_option maxHeartbeats 1600000 in
theorem eqRect_any (l m : List R4) (A1 A2 : Option Addr) (c1 c2 n k : Nat) (w : World) (hn : l.length = n) (hk : m.length = k) (hb1 : n ≤ 17592186044416) (hb2 : k ≤ 17592186044416) (h1 : rectE.At w A1 l) (h2 : rectE.At w A2 m) :
    Calls Try.prog 46 #[.slice A1 n c1, .slice A2 k c2] w fun e w' => e = .returned (.bool (decide (l = m))) ∧ Ext w w' := by
  have HN := Lib.hid hn
  have HK := Lib.hid hk
  clear hn hk
  go_enter Try.func46, Try.ntmps46
  by_cases hnk : n = k
  · subst hnk
    have d1 : ((n : Int) == (n : Int)) = true := by simp
    go_wp2_with fail
    go_loopw [5, 13] (fun _ i wr => ∃ j : Nat, j ≤ n ∧ i = .int .i64 j ∧ Ext w wr ∧ Hid (l.take j = m.take j)) (fun _ i _ => n - (intOf i).toNat)
    case atStart => exact ⟨0, Nat.zero_le _, rfl, Ext.refl _, Lib.hid (by simp)⟩
    case round =>
      obtain ⟨j, hj, rfl, hE, HT⟩ := hrel
      by_cases hlt : j < n
      · have dj : ((j : Int) < (n : Int)) = True := eq_true (by omega)
        obtain ⟨⟨x0, x1, x2, x3⟩, hlx⟩ : ∃ q, l[j]? = some q := ⟨_, List.getElem?_eq_getElem (by rw [HN.out]; exact hlt)⟩
        obtain ⟨⟨y0, y1, y2, y3⟩, hly⟩ : ∃ q, m[j]? = some q := ⟨_, List.getElem?_eq_getElem (by rw [HK.out]; exact hlt)⟩
        obtain ⟨b, o, rfl⟩ := h1.addr hlx
        obtain ⟨b', o', rfl⟩ := h2.addr hly
        obtain ⟨e0, e1, e2, e3⟩ := rect_cell h1 hlx
        obtain ⟨f0, f1, f2, f3⟩ := rect_cell h2 hly
        replace e0 := hE.cell e0
        replace f0 := hE.cell f0
        replace e1 := hE.cell e1
        replace f1 := hE.cell f1
        replace e2 := hE.cell e2
        replace f2 := hE.cell f2
        replace e3 := hE.cell e3
        replace f3 := hE.cell f3
        dsimp only at e0 e1 e2 e3 f0 f1 f2 f3
        have HX := Lib.hid hlx
        have HY := Lib.hid hly
        clear hlx hly
        by_cases hxy : x0 = y0 ∧ x1 = y1 ∧ x2 = y2 ∧ x3 = y3
        · obtain ⟨rfl, rfl, rfl, rfl⟩ := hxy
          have HS := Lib.hid (show l.take (j + 1) = m.take (j + 1) from by
            rw [List.take_add_one, List.take_add_one, HX.out, HY.out, HT.out])
          go_wp2_with fail
          go_quiet (fail)
          go_wp2
          go_roundw
          case rel => exact ⟨j + 1, by omega, by go_num, hE.drewN _, HS⟩
          case measure => simp [intOf]; omega
        · have d2 : (decide (x0 = y0) && (decide (x1 = y1) && (decide (x2 = y2) && decide (x3 = y3)))) = false := by
            rw [Bool.eq_false_iff]; intro e; apply hxy; simpa using e
          have d3 : (¬x0 = y0 ∨ ¬x1 = y1 ∨ ¬x2 = y2 ∨ ¬x3 = y3) = True := eq_true (by omega)
          have d4 : ((!decide (x0 = y0)) || ((!decide (x1 = y1)) || ((!decide (x2 = y2)) || (!decide (x3 = y3))))) = true := by
            simpa using d3
          have HS := Lib.hid (show ¬ l = m from fun e => hxy (by
            have h1 := HX.out
            rw [e, HY.out] at h1
            injection h1 with h1
            simp only [Prod.mk.injEq] at h1
            exact ⟨h1.1.symm, h1.2.1.symm, h1.2.2.1.symm, h1.2.2.2.symm⟩))
          have HXY := Lib.hid hxy
          clear hxy
          go_wp2_with fail
          go_quiet (fail)
          go_wp2
          all_goals first
            | (go_ret; exact ⟨ret_eq (by rw [decide_eq_false HS.out]; rfl), hE.drewN _⟩)
            | (rename_i hh; exact absurd (by simpa using hh) HXY.out)
      · have HS := Lib.hid (show l = m from by
          have := HT.out
          rwa [List.take_of_length_le (by rw [HN.out]; omega), List.take_of_length_le (by rw [HK.out]; omega)] at this)
        have d3 : ((j : Int) < (n : Int)) = False := eq_false (by omega)
        go_wp2
        go_ret
        exact ⟨ret_eq (by rw [decide_eq_true HS.out]; rfl), hE⟩
  · have d1 : ((n : Int) == (k : Int)) = false := by simp; omega
    have HS := Lib.hid (show ¬ l = m from fun e => hnk (by rw [← HN.out, ← HK.out, e]))
    clear hnk
    go_wp2
    go_ret
    exact ⟨ret_eq (by rw [decide_eq_false HS.out]; rfl), Ext.refl _⟩
set_option maxHeartbeats 1600000 in
theorem eqRun_any (l m : List Run) (A1 A2 : Option Addr) (c1 c2 n k : Nat) (w : World) (hn : l.length = n) (hk : m.length = k) (hb1 : n ≤ 17592186044416) (hb2 : k ≤ 17592186044416) (h1 : runE.At w A1 l) (h2 : runE.At w A2 m) :
    Calls Try.prog 77 #[.slice A1 n c1, .slice A2 k c2] w fun e w' => e = .returned (.bool (decide (l = m))) ∧ Ext w w' := by
  have HN := Lib.hid hn
  have HK := Lib.hid hk
  clear hn hk
  go_enter Try.func77, Try.ntmps77
  by_cases hnk : n = k
  · subst hnk
    have d1 : ((n : Int) == (n : Int)) = true := by simp
    go_wp2_with fail
    go_loopw [5, 13] (fun _ i wr => ∃ j : Nat, j ≤ n ∧ i = .int .i64 j ∧ Ext w wr ∧ Hid (l.take j = m.take j)) (fun _ i _ => n - (intOf i).toNat)
    case atStart => exact ⟨0, Nat.zero_le _, rfl, Ext.refl _, Lib.hid (by simp)⟩
    case round =>
      obtain ⟨j, hj, rfl, hE, HT⟩ := hrel
      by_cases hlt : j < n
      · have dj : ((j : Int) < (n : Int)) = True := eq_true (by omega)
        obtain ⟨⟨x0, x1⟩, hlx⟩ : ∃ q, l[j]? = some q := ⟨_, List.getElem?_eq_getElem (by rw [HN.out]; exact hlt)⟩
        obtain ⟨⟨y0, y1⟩, hly⟩ : ∃ q, m[j]? = some q := ⟨_, List.getElem?_eq_getElem (by rw [HK.out]; exact hlt)⟩
        obtain ⟨b, o, rfl⟩ := h1.addr hlx
        obtain ⟨b', o', rfl⟩ := h2.addr hly
        obtain ⟨e0, e1⟩ := run_cell h1 hlx
        obtain ⟨f0, f1⟩ := run_cell h2 hly
        replace e0 := hE.cell e0
        replace f0 := hE.cell f0
        replace e1 := hE.cell e1
        replace f1 := hE.cell f1
        dsimp only at e0 e1 f0 f1
        have HX := Lib.hid hlx
        have HY := Lib.hid hly
        clear hlx hly
        by_cases hxy : x0 = y0 ∧ x1 = y1
        · obtain ⟨rfl, rfl⟩ := hxy
          have HS := Lib.hid (show l.take (j + 1) = m.take (j + 1) from by
            rw [List.take_add_one, List.take_add_one, HX.out, HY.out, HT.out])
          go_wp2_with fail
          go_quiet (fail)
          go_wp2
          go_roundw
          case rel => exact ⟨j + 1, by omega, by go_num, hE.drewN _, HS⟩
          case measure => simp [intOf]; omega
        · have d2 : (decide (x0 = y0) && decide (x1 = y1)) = false := by
            rw [Bool.eq_false_iff]; intro e; apply hxy; simpa using e
          have d3 : (¬x0 = y0 ∨ ¬x1 = y1) = True := eq_true (by omega)
          have d4 : ((!decide (x0 = y0)) || (!decide (x1 = y1))) = true := by
            simpa using d3
          have HS := Lib.hid (show ¬ l = m from fun e => hxy (by
            have h1 := HX.out
            rw [e, HY.out] at h1
            injection h1 with h1
            simp only [Prod.mk.injEq] at h1
            exact ⟨h1.1.symm, h1.2.symm⟩))
          have HXY := Lib.hid hxy
          clear hxy
          go_wp2_with fail
          go_quiet (fail)
          go_wp2
          all_goals first
            | (go_ret; exact ⟨ret_eq (by rw [decide_eq_false HS.out]; rfl), hE.drewN _⟩)
            | (rename_i hh; exact absurd (by simpa using hh) HXY.out)
      · have HS := Lib.hid (show l = m from by
          have := HT.out
          rwa [List.take_of_length_le (by rw [HN.out]; omega), List.take_of_length_le (by rw [HK.out]; omega)] at this)
        have d3 : ((j : Int) < (n : Int)) = False := eq_false (by omega)
        go_wp2
        go_ret
        exact ⟨ret_eq (by rw [decide_eq_true HS.out]; rfl), hE⟩
  · have d1 : ((n : Int) == (k : Int)) = false := by simp; omega
    have HS := Lib.hid (show ¬ l = m from fun e => hnk (by rw [← HN.out, ← HK.out, e]))
    clear hnk
    go_wp2
    go_ret
    exact ⟨ret_eq (by rw [decide_eq_false HS.out]; rfl), Ext.refl _⟩
set_option maxHeartbeats 1600000 in
theorem Rows_any (l m : List R4) (A1 A2 : Option Addr) (c1 c2 n k : Nat) (w : World) (hn : l.length = n) (hk : m.length = k) (hb1 : n ≤ 17592186044416) (hb2 : k ≤ 17592186044416) (h1 : rectE.At w A1 l) (h2 : rectE.At w A2 m) :
    Calls Try.prog 17 #[.slice A1 n c1, .slice A2 k c2] w fun e w' => e = .returned (.bool (decide (l = m))) ∧ Ext w w' := by
  have HN := Lib.hid hn
  have HK := Lib.hid hk
  clear hn hk
  go_enter Try.func17, Try.ntmps17
  by_cases hnk : n = k
  · subst hnk
    have d1 : ((n : Int) == (n : Int)) = true := by simp
    go_wp2_with fail
    go_loopw [5] (fun i wr => ∃ j : Nat, j ≤ n ∧ i = .int .i64 j ∧ Ext w wr ∧ Hid (l.take j = m.take j)) (fun i _ => n - (intOf i).toNat)
    case atStart => exact ⟨0, Nat.zero_le _, rfl, Ext.refl _, Lib.hid (by simp)⟩
    case round =>
      obtain ⟨j, hj, rfl, hE, HT⟩ := hrel
      by_cases hlt : j < n
      · have dj : ((j : Int) < (n : Int)) = True := eq_true (by omega)
        obtain ⟨⟨x0, x1, x2, x3⟩, hlx⟩ : ∃ q, l[j]? = some q := ⟨_, List.getElem?_eq_getElem (by rw [HN.out]; exact hlt)⟩
        obtain ⟨⟨y0, y1, y2, y3⟩, hly⟩ : ∃ q, m[j]? = some q := ⟨_, List.getElem?_eq_getElem (by rw [HK.out]; exact hlt)⟩
        obtain ⟨b, o, rfl⟩ := h1.addr hlx
        obtain ⟨b', o', rfl⟩ := h2.addr hly
        obtain ⟨e0, e1, e2, e3⟩ := rect_cell h1 hlx
        obtain ⟨f0, f1, f2, f3⟩ := rect_cell h2 hly
        replace e0 := hE.cell e0
        replace f0 := hE.cell f0
        replace e1 := hE.cell e1
        replace f1 := hE.cell f1
        replace e2 := hE.cell e2
        replace f2 := hE.cell f2
        replace e3 := hE.cell e3
        replace f3 := hE.cell f3
        dsimp only at e0 e1 e2 e3 f0 f1 f2 f3
        have HX := Lib.hid hlx
        have HY := Lib.hid hly
        clear hlx hly
        by_cases hxy : x0 = y0 ∧ x1 = y1 ∧ x2 = y2 ∧ x3 = y3
        · obtain ⟨rfl, rfl, rfl, rfl⟩ := hxy
          have HS := Lib.hid (show l.take (j + 1) = m.take (j + 1) from by
            rw [List.take_add_one, List.take_add_one, HX.out, HY.out, HT.out])
          go_wp2_with fail
          go_quiet (fail)
          go_wp2
          go_roundw
          case rel => exact ⟨j + 1, by omega, by go_num, hE.drewN _, HS⟩
          case measure => simp [intOf]; omega
        · have d2 : (decide (x0 = y0) && (decide (x1 = y1) && (decide (x2 = y2) && decide (x3 = y3)))) = false := by
            rw [Bool.eq_false_iff]; intro e; apply hxy; simpa using e
          have d3 : (¬x0 = y0 ∨ ¬x1 = y1 ∨ ¬x2 = y2 ∨ ¬x3 = y3) = True := eq_true (by omega)
          have d4 : ((!decide (x0 = y0)) || ((!decide (x1 = y1)) || ((!decide (x2 = y2)) || (!decide (x3 = y3))))) = true := by
            simpa using d3
          have HS := Lib.hid (show ¬ l = m from fun e => hxy (by
            have h1 := HX.out
            rw [e, HY.out] at h1
            injection h1 with h1
            simp only [Prod.mk.injEq] at h1
            exact ⟨h1.1.symm, h1.2.1.symm, h1.2.2.1.symm, h1.2.2.2.symm⟩))
          have HXY := Lib.hid hxy
          clear hxy
          go_wp2_with fail
          go_quiet (fail)
          go_wp2
          all_goals first
            | (go_ret; exact ⟨ret_eq (by rw [decide_eq_false HS.out]; rfl), hE.drewN _⟩)
            | (rename_i hh; exact absurd (by simpa using hh) HXY.out)
      · have HS := Lib.hid (show l = m from by
          have := HT.out
          rwa [List.take_of_length_le (by rw [HN.out]; omega), List.take_of_length_le (by rw [HK.out]; omega)] at this)
        have d3 : ((j : Int) < (n : Int)) = False := eq_false (by omega)
        go_wp2
        go_ret
        exact ⟨ret_eq (by rw [decide_eq_true HS.out]; rfl), hE⟩
  · have d1 : ((n : Int) == (k : Int)) = false := by simp; omega
    have HS := Lib.hid (show ¬ l = m from fun e => hnk (by rw [← HN.out, ← HK.out, e]))
    clear hnk
    go_wp2
    go_ret
    exact ⟨ret_eq (by rw [decide_eq_false HS.out]; rfl), Ext.refl _⟩
end Go.Proofs.Ytkjpcjmbhpfelaa
