/- The example of the chapter; few. -/
import Derived.Test.YtkjpcjmbhpfelaaGreatRgArea
import Derived.Test.YtkjpcjmbhpfelaaGreatRgLim
set_option linter.unusedVariables false
set_option linter.unusedSimpArgs false
namespace Go.Reg
open Go.Proofs.YtkjpcjmbhpfelaaGreat
theorem ex1_region : RegionOf (inL [(0, 0, 2, 1), (0, 1, 2, 2)]) [(0, 0, 2, 2)] := by
  have hok : OKB [((0, 2, [(0, 2)]) : Band)] := OKB.mk (List.pairwise_singleton _ _) fun b hb => by
    rw [List.mem_singleton.1 hb]
    exact ⟨by decide, by simp, OKR.iff.2 ⟨List.pairwise_singleton _ _, fun r hr => by rw [List.mem_singleton.1 hr]; decide⟩⟩
  refine ⟨_, hok, fun x y => ?_, rfl⟩
  have e1 : rectEmptyS (0, 0, 2, 1) = false := rfl
  have e2 : rectEmptyS (0, 1, 2, 2) = false := rfl
  rw [Bool.eq_iff_iff, inB_iff hok, inL_iff]
  simp only [List.mem_cons, List.not_mem_nil, or_false, exists_eq_or_imp, exists_eq_left, hasR_iff, e1, e2, inRuns_mem, true_and]
  omega
theorem ex2_region : RegionOf (fun x y => inL [(0, 0, 3, 3)] x y && !inL [(1, 1, 2, 2)] x y) [(0, 0, 3, 1), (0, 1, 1, 2), (2, 1, 3, 2), (0, 2, 3, 3)] := by
  have hok : OKB [((0, 1, [(0, 3)]) : Band), (1, 2, [(0, 1), (2, 3)]), (2, 3, [(0, 3)])] := by
    refine ⟨⟨by decide, by simp, (fun q hq => by cases hq; exact ⟨by decide, fun _ => by simp⟩), by decide, by simp, (fun q hq => by cases hq; exact ⟨by decide, fun _ => by simp⟩), by decide, by simp, (fun q hq => by cases hq), trivial⟩, fun b hb => ?_⟩
    simp only [List.mem_cons, List.not_mem_nil, or_false] at hb
    rcases hb with rfl | rfl | rfl
    · exact OKR.iff.2 ⟨List.pairwise_singleton _ _, fun r hr => by rw [List.mem_singleton.1 hr]; decide⟩
    · refine OKR.iff.2 ⟨by simp, fun r hr => ?_⟩
      simp only [List.mem_cons, List.not_mem_nil, or_false] at hr
      rcases hr with rfl | rfl <;> decide
    · exact OKR.iff.2 ⟨List.pairwise_singleton _ _, fun r hr => by rw [List.mem_singleton.1 hr]; decide⟩
  refine ⟨_, hok, fun x y => ?_, rfl⟩
  have e1 : rectEmptyS (0, 0, 3, 3) = false := rfl
  have e2 : rectEmptyS (1, 1, 2, 2) = false := rfl
  rw [Bool.eq_iff_iff, inB_iff hok, Bool.and_eq_true, Bool.not_eq_true', ← Bool.not_eq_true, inL_iff, inL_iff]
  simp only [List.mem_cons, List.not_mem_nil, or_false, exists_eq_or_imp, exists_eq_left, hasR_iff, e1, e2, inRuns_mem, true_and]
  omega
theorem ex2_area : pixCount (inL [(0, 0, 3, 1), (0, 1, 1, 2), (2, 1, 3, 2), (0, 2, 3, 3)]) = 8 := by
  have hw : InWin (fun x y => inL [(0, 0, 3, 3)] x y && !inL [(1, 1, 2, 2)] x y) := fun x y h => inL_win _ x y ((Bool.and_eq_true _ _).mp h).1
  rw [← (ex2_region.self hw).area (inL_win _)]
  rfl
end Go.Reg
namespace Go.Proofs.YtkjpcjmbhpfelaaGreat
open Go.RowKit Go.Par Go.Reg

theorem few_any (A1 A2 : Option Addr) (n1 c1 n2 c2 : Nat) (w : World) :
    Calls Tryz.prog 4 #[.slice A1 n1 c1, .slice A2 n2 c2] w fun e w' => e = .returned (.bool (decide (n1 ≤ 24 ∧ n2 ≤ 24))) ∧ w = w' := by
  by_cases h1 : n1 ≤ 24
  · by_cases h2 : n2 ≤ 24
    · have HD := Lib.hid (show decide (n1 ≤ 24 ∧ n2 ≤ 24) = true from decide_eq_true ⟨h1, h2⟩)
      have d1 : ((n1 : Int) ≤ 24) = True := eq_true (by omega)
      have d2 : ((n2 : Int) ≤ 24) = True := eq_true (by omega)
      go_enter Tryz.func4, Tryz.ntmps4
      go_wp2
      go_ret
      exact ⟨ret_eq (by rw [HD.out]; simp [h1, h2]), rfl⟩
    · have HD := Lib.hid (show decide (n1 ≤ 24 ∧ n2 ≤ 24) = false from decide_eq_false (by omega))
      have d1 : ((n1 : Int) ≤ 24) = True := eq_true (by omega)
      have d2 : ((n2 : Int) ≤ 24) = False := eq_false (by omega)
      go_enter Tryz.func4, Tryz.ntmps4
      go_wp2
      go_ret
      exact ⟨ret_eq (by rw [HD.out]; simp), rfl⟩
  · have HD := Lib.hid (show decide (n1 ≤ 24 ∧ n2 ≤ 24) = false from decide_eq_false (by omega))
    have d1 : ((n1 : Int) ≤ 24) = False := eq_false (by omega)
    go_enter Tryz.func4, Tryz.ntmps4
    go_wp2
    go_ret
    exact ⟨ret_eq (by rw [HD.out]; simp), rfl⟩
theorem rects_at {w : World} {b n : Nat} {cs : Array Value} {l : List R4} (h : Box w b 34 cs) (hc : cs.toList = rectE.cells l) : rectE.At w (some ⟨b, 0, none⟩) l :=
  EL.At.box h fun j v hv => by rw [← hc] at hv; simpa using hv
set_option maxRecDepth 100000 in
set_option maxHeartbeats 3200000 in
theorem example_any (w : World) : Calls Tryz.prog 5 #[] w fun e w' => e = .returned (.bool true) ∧ Ext w w' := by
  have H1 := Lib.hid (fun (W : World) (b : Nat) (hb : Box W b 34 #[.int .i64 0, .int .i64 0, .int .i64 2, .int .i64 1, .int .i64 0, .int .i64 1, .int .i64 2, .int .i64 2]) => New_any [(0, 0, 2, 1), (0, 1, 2, 2)] (some ⟨b, 0, none⟩) 2 2 W rfl (by omega) (rects_at (n := 0) hb rfl))
  have H2 := Lib.hid (fun (W : World) (b b2 : Nat) (hb : Box W b 34 #[.int .i64 0, .int .i64 0, .int .i64 3, .int .i64 3]) (hb2 : Box W b2 34 #[.int .i64 1, .int .i64 1, .int .i64 2, .int .i64 2]) => subt_any [(0, 0, 3, 3)] [(1, 1, 2, 2)] (some ⟨b, 0, none⟩) (some ⟨b2, 0, none⟩) 1 1 1 1 W rfl rfl (by omega) (by omega) (rects_at (n := 0) hb rfl) (rects_at (n := 0) hb2 rfl))
  have hE := Ext.alloc w (.cells #[.int .i64 0, .int .i64 0, .int .i64 2, .int .i64 1, .int .i64 0, .int .i64 1, .int .i64 2, .int .i64 2] 34)
  have b1 := Box.new w 34 #[.int .i64 0, .int .i64 0, .int .i64 2, .int .i64 1, .int .i64 0, .int .i64 1, .int .i64 2, .int .i64 2]
  go_enter Tryz.func5, Tryz.ntmps5
  go_wp2_with fail
  refine (H1.out _ _ b1).mono ?_
  rintro e w1 ⟨v, er, L, rfl, hE1, hr, hres⟩
  obtain rfl : L = [(0, 0, 2, 2)] := hr.uniq ex1_region fun _ _ => rfl
  obtain ⟨_, rfl, hown⟩ | ⟨k1, _, _⟩ := hres
  rotate_left
  · exact absurd k1 (by decide)
  obtain ⟨A1, c1, rfl, _, hat1⟩ := hown.at (n := 1) rfl (by omega)
  replace hE := hE.trans hE1
  clear hown hr b1 hE1 H1
  have hE2 := hE.trans ((Ext.alloc w1 (.cells #[.int .i64 0, .int .i64 0, .int .i64 3, .int .i64 3] 34)).trans (Ext.alloc _ (.cells #[.int .i64 1, .int .i64 1, .int .i64 2, .int .i64 2] 34)))
  have b2 := (Box.new w1 34 #[.int .i64 0, .int .i64 0, .int .i64 3, .int .i64 3]).alloc (.cells #[.int .i64 1, .int .i64 1, .int .i64 2, .int .i64 2] 34)
  have b3 := Box.at1 (w := w1) (o := .cells #[.int .i64 0, .int .i64 0, .int .i64 3, .int .i64 3] 34) (t := 34) (cs := #[.int .i64 1, .int .i64 1, .int .i64 2, .int .i64 2])
  replace hat1 := (hat1.ext (Ext.alloc w1 (.cells #[.int .i64 0, .int .i64 0, .int .i64 3, .int .i64 3] 34))).ext (Ext.alloc _ (.cells #[.int .i64 1, .int .i64 1, .int .i64 2, .int .i64 2] 34))
  go_wp2_with fail
  refine (H2.out _ _ _ b2 b3).mono ?_
  rintro e w2 ⟨v, er, L, rfl, hE3, hr, hres⟩
  obtain rfl : L = [(0, 0, 3, 1), (0, 1, 1, 2), (2, 1, 3, 2), (0, 2, 3, 3)] := hr.uniq ex2_region fun _ _ => rfl
  obtain ⟨_, rfl, hown⟩ | ⟨k1, _, _⟩ := hres
  rotate_left
  · exact absurd k1 (by decide)
  obtain ⟨A2, c2, rfl, _, hat2⟩ := hown.at (n := 4) rfl (by omega)
  replace hE2 := hE2.trans hE3
  replace hat1 := hat1.ext hE3
  clear hown hr b2 b3 hE3 H2 hE
  -- the wanted rectangles
  have hE4 := Ext.alloc w2 (.cells #[.int .i64 0, .int .i64 0, .int .i64 3, .int .i64 1, .int .i64 0, .int .i64 1, .int .i64 1, .int .i64 2, .int .i64 2, .int .i64 1, .int .i64 3, .int .i64 2, .int .i64 0, .int .i64 2, .int .i64 3, .int .i64 3] 34)
  have b4 := Box.new w2 34 #[.int .i64 0, .int .i64 0, .int .i64 3, .int .i64 1, .int .i64 0, .int .i64 1, .int .i64 1, .int .i64 2, .int .i64 2, .int .i64 1, .int .i64 3, .int .i64 2, .int .i64 0, .int .i64 2, .int .i64 3, .int .i64 3]
  have hE5 := hE4.trans (Ext.alloc _ (.cells #[.int .i64 0, .int .i64 0, .int .i64 2, .int .i64 2] 34))
  have b5 := Box.at1 (w := w2) (o := .cells #[.int .i64 0, .int .i64 0, .int .i64 3, .int .i64 1, .int .i64 0, .int .i64 1, .int .i64 1, .int .i64 2, .int .i64 2, .int .i64 1, .int .i64 3, .int .i64 2, .int .i64 0, .int .i64 2, .int .i64 3, .int .i64 3] 34) (t := 34) (cs := #[.int .i64 0, .int .i64 0, .int .i64 2, .int .i64 2])
  have b4' := b4.alloc (.cells #[.int .i64 0, .int .i64 0, .int .i64 2, .int .i64 2] 34)
  replace hat1 := hat1.ext hE5
  replace hat2 := hat2.ext hE5
  have hw1 := rects_at (n := 0) (l := [(0, 0, 2, 2)]) b5 rfl
  have hw2 := rects_at (n := 0) (l := [(0, 0, 3, 1), (0, 1, 1, 2), (2, 1, 3, 2), (0, 2, 3, 3)]) b4' rfl
  replace hE2 := hE2.trans hE5
  clear b4 b4' b5 hE4 hE5
  have HR1 := Lib.hid (fun (W : World) k => Rows_any [(0, 0, 2, 2)] [(0, 0, 2, 2)] A1 (some ⟨w2.heap.size + 1, 0, none⟩) c1 1 1 1 W rfl rfl (by omega) (by omega) (hat1.ext k) (hw1.ext k))
  have HR2 := Lib.hid (fun (W : World) k => Rows_any [(0, 0, 3, 1), (0, 1, 1, 2), (2, 1, 3, 2), (0, 2, 3, 3)] [(0, 0, 3, 1), (0, 1, 1, 2), (2, 1, 3, 2), (0, 2, 3, 3)] A2 (some ⟨w2.heap.size, 0, none⟩) c2 4 4 4 W rfl rfl (by omega) (by omega) (hat2.ext k) (hw2.ext k))
  rw [decide_eq_true rfl] at HR1 HR2
  have HA := Lib.hid (fun (W : World) k => Area_any [(0, 0, 3, 1), (0, 1, 1, 2), (2, 1, 3, 2), (0, 2, 3, 3)] A2 4 c2 W rfl (by omega) (hat2.ext k))
  rw [ex2_area] at HA
  have HC1 := Lib.hid (fun (W : World) k => pContains_any [(0, 0, 3, 1), (0, 1, 1, 2), (2, 1, 3, 2), (0, 2, 3, 3)] A2 4 c2 0 1 W rfl (by omega) (hat2.ext k))
  have HC2 := Lib.hid (fun (W : World) k => pContains_any [(0, 0, 3, 1), (0, 1, 1, 2), (2, 1, 3, 2), (0, 2, 3, 3)] A2 4 c2 1 1 W rfl (by omega) (hat2.ext k))
  have i1 : inL [(0, 0, 3, 1), (0, 1, 1, 2), (2, 1, 3, 2), (0, 2, 3, 3)] 0 1 = true := by decide
  have i2 : inL [(0, 0, 3, 1), (0, 1, 1, 2), (2, 1, 3, 2), (0, 2, 3, 3)] 1 1 = false := by decide
  rw [i1] at HC1
  rw [i2] at HC2
  clear i1 i2 hat1 hat2 hw1 hw2
  go_wp2_with fail
  refine (HR1.out _ (Ext.refl _)).mono ?_
  rintro e w3 ⟨rfl, k3⟩
  go_wp2_with fail
  refine (HR2.out _ k3).mono ?_
  rintro e w4 ⟨rfl, k4⟩
  go_wp2_with fail
  refine (HA.out _ (k3.trans k4)).mono ?_
  rintro e w5 ⟨rfl, k5⟩
  go_wp2_with fail
  refine (HC1.out _ ((k3.trans k4).trans k5)).mono ?_
  rintro e w6 ⟨rfl, k6⟩
  go_wp2_with fail
  refine (HC2.out _ (((k3.trans k4).trans k5).trans k6)).mono ?_
  rintro e w7 ⟨rfl, k7⟩
  go_wp2
  go_ret
  exact ⟨rfl, ((((hE2.trans k3).trans k4).trans k5).trans k6).trans k7⟩
end Go.Proofs.YtkjpcjmbhpfelaaGreat
