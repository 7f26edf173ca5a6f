/- Equal of the reference, at bitmaps. -/
import Derived.Test.YtefdheoalonbaaaBmV
set_option linter.unusedVariables false
set_option linter.unusedSimpArgs false
namespace Go.Proofs.Ytefdheoalonbaaa
open Go.RowKit Go.Par

set_option maxHeartbeats 1600000 in
theorem BmEqual_any (x0 y0 x1 y1 p0 p1 p2 p3 : Int) (A1 A2 : Option Addr) (c1 c2 n k : Nat) (l m : List P4) (w : World) (hn : l.length = n) (hk : m.length = k) (hb1 : n ≤ 17592186044416) (hb2 : k ≤ 17592186044416) (h1 : pixE.At w A1 l) (h2 : pixE.At w A2 m) :
    Calls Try.prog 25 #[.agg #[.int .i64 x0, .int .i64 y0, .int .i64 x1, .int .i64 y1, .slice A1 n c1], .agg #[.int .i64 p0, .int .i64 p1, .int .i64 p2, .int .i64 p3, .slice A2 k c2]] w fun e w' => e = .returned (.bool (decide ((((x0, y0, x1, y1), l) : BM) = ((p0, p1, p2, p3), m)))) ∧ Ext w w' := by
  have HN := Lib.hid hn
  have HK := Lib.hid hk
  clear hn hk
  have HE := Lib.hid (show ((((x0, y0, x1, y1), l) : BM) = ((p0, p1, p2, p3), m)) ↔ (x0 = p0 ∧ y0 = p1 ∧ x1 = p2 ∧ y1 = p3) ∧ l = m from by simp only [Prod.mk.injEq])
  go_enter Try.func25, Try.ntmps25
  by_cases hq : x0 = p0 ∧ y0 = p1 ∧ x1 = p2 ∧ y1 = p3
  · by_cases hnk : n = k
    · obtain ⟨rfl, rfl, rfl, rfl⟩ := hq
      subst hnk
      have d1 : ((n : Int) == (n : Int)) = true := by simp
      go_wp2_with fail
      generalize hw0 : World.alloc (World.alloc w _) _ = w0
      have b2 : Box w0 w.heap.size 34 #[.int .i64 x0, .int .i64 y0, .int .i64 x1, .int .i64 y1, .slice A1 n c1] := by rw [← hw0]; exact (Box.new _ _ _).alloc _
      have b3 : Box w0 (w.heap.size + 1) 34 #[.int .i64 x0, .int .i64 y0, .int .i64 x1, .int .i64 y1, .slice A2 n c2] := by rw [← hw0]; exact Box.at1
      have hE0 : Ext w w0 := by rw [← hw0]; exact (Ext.alloc _ _).trans (Ext.alloc _ _)
      clear hw0
      go_loopw [5] (fun i wr => ∃ j : Nat, j ≤ n ∧ i = .int .i64 j ∧ Ext w0 wr ∧ Hid (l.take j = m.take j)) (fun i _ => n - (intOf i).toNat)
      case atStart => exact ⟨0, Nat.zero_le _, rfl, Ext.refl _, Lib.hid (by simp)⟩
      case round =>
        obtain ⟨j, hj, rfl, hE, HT⟩ := hrel
        have k2 := (b2.ext hE).cell
        have k3 := (b3.ext hE).cell
        by_cases hlt : j < n
        · have dj : ((j : Int) < (n : Int)) = True := eq_true (by omega)
          obtain ⟨⟨r, g, b, a⟩, hlx⟩ : ∃ q, l[j]? = some q := ⟨_, List.getElem?_eq_getElem (by rw [HN.out]; exact hlt)⟩
          obtain ⟨⟨r', g', b', a'⟩, hly⟩ : ∃ q, m[j]? = some q := ⟨_, List.getElem?_eq_getElem (by rw [HK.out]; exact hlt)⟩
          obtain ⟨bb, o, rfl, hcell⟩ := h1 (fun e => by rw [e] at hlx; simp at hlx)
          obtain ⟨bb', o', rfl, hcell'⟩ := h2 (fun e => by rw [e] at hly; simp at hly)
          obtain ⟨e0, e1, e2, e3⟩ := pix_cells hcell hlx
          obtain ⟨f0, f1, f2, f3⟩ := pix_cells hcell' hly
          have hEE := hE0.trans hE
          replace e0 := hEE.cell e0
          replace e1 := hEE.cell e1
          replace e2 := hEE.cell e2
          replace e3 := hEE.cell e3
          replace f0 := hEE.cell f0
          replace f1 := hEE.cell f1
          replace f2 := hEE.cell f2
          replace f3 := hEE.cell f3
          have HX := Lib.hid hlx
          have HY := Lib.hid hly
          clear hcell hcell' hlx hly
          by_cases hxy : r = r' ∧ g = g' ∧ b = b' ∧ a = a'
          · obtain ⟨rfl, rfl, rfl, rfl⟩ := hxy
            have HS := Lib.hid (show l.take (j + 1) = m.take (j + 1) from by
              rw [List.take_add_one, List.take_add_one, HX.out, HY.out, HT.out])
            go_wp2_with fail
            go_quiet (fail)
            go_wp2
            go_roundw
            case rel => exact ⟨j + 1, by omega, by go_num, hE.drewN _, HS⟩
            case measure => simp [intOf]; omega
          · have d2 : (decide (r = r') && (decide (g = g') && (decide (b = b') && decide (a = a')))) = false := by
              rw [Bool.eq_false_iff]; intro e; apply hxy; simpa using e
            have d3 : (¬r = r' ∨ ¬g = g' ∨ ¬b = b' ∨ ¬a = a') = True := eq_true (by omega)
            have HS := Lib.hid (show ¬ l = m from fun e => hxy (by
              have h1 := HX.out
              rw [e, HY.out] at h1
              injection h1 with h1
              simp only [Prod.mk.injEq] at h1
              exact ⟨h1.1.symm, h1.2.1.symm, h1.2.2.1.symm, h1.2.2.2.symm⟩))
            have HXY := Lib.hid hxy
            clear hxy
            go_wp2_with fail
            go_quiet (fail)
            go_wp2
            case roundEnd => rename_i hh; exact absurd (by simpa using hh) HXY.out
            go_ret
            exact ⟨ret_eq (by rw [decide_eq_false (fun e => HS.out (HE.out.1 e).2)]; rfl), (hE0.trans hE).drewN _⟩
        · have HS := Lib.hid (show l = m from by
            have := HT.out
            rwa [List.take_of_length_le (by rw [HN.out]; omega), List.take_of_length_le (by rw [HK.out]; omega)] at this)
          have d3 : ((j : Int) < (n : Int)) = False := eq_false (by omega)
          go_wp2
          go_ret
          exact ⟨ret_eq (by rw [decide_eq_true (HE.out.2 ⟨by simp, HS.out⟩)]; rfl), hE0.trans hE⟩
    · obtain ⟨rfl, rfl, rfl, rfl⟩ := hq
      have d1 : ((n : Int) == (k : Int)) = false := by simp; omega
      have HS := Lib.hid (show ¬ l = m from fun e => hnk (by rw [← HN.out, ← HK.out, e]))
      clear hnk
      go_wp2
      go_ret
      exact ⟨ret_eq (by first | (rw [decide_eq_false HS.out]; rfl) | (rw [decide_eq_false (fun e => HS.out (HE.out.1 e).2)]; rfl)), (Ext.alloc _ _).trans (Ext.alloc _ _)⟩
  · have d1 : (decide (x0 = p0) && (decide (y0 = p1) && (decide (x1 = p2) && decide (y1 = p3)))) = false := by
      rw [Bool.eq_false_iff]; intro e; apply hq; simpa using e
    have d2 : (¬x0 = p0 ∨ ¬y0 = p1 ∨ ¬x1 = p2 ∨ ¬y1 = p3) = True := eq_true (by omega)
    have HS := Lib.hid hq
    clear hq
    go_wp2
    go_ret
    exact ⟨ret_eq (by rw [decide_eq_false (fun e => HS.out (HE.out.1 e).1)]; rfl), (Ext.alloc _ _).trans (Ext.alloc _ _)⟩
end Go.Proofs.Ytefdheoalonbaaa
