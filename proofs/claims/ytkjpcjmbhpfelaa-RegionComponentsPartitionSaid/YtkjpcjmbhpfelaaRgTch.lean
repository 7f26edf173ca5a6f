/- touch, overlap, adjacent, Lists. -/
import Derived.Test.YtkjpcjmbhpfelaaRgNewR
import Derived.Test.YtkjpcjmbhpfelaaRgComp
set_option linter.unusedVariables false
set_option linter.unusedSimpArgs false
namespace Go.Proofs.Ytkjpcjmbhpfelaa
open Go.RowKit Go.Par Go.Reg

set_option maxHeartbeats 800000 in
theorem overlap_any (a b c d : Int) (w : World) :
    Calls Try.prog 109 #[.int .i64 a, .int .i64 b, .int .i64 c, .int .i64 d] w fun e w' => e = .returned (.bool (decide (max a c < min b d))) ∧ w = w' := by
  go_enter Try.func109, Try.ntmps109
  go_wp2
  go_ret
  exact ⟨rfl, rfl⟩
set_option maxHeartbeats 1600000 in
theorem touch_any (a b c d p q r s : Int) (w : World) :
    Calls Try.prog 66 #[.agg #[.int .i64 a, .int .i64 b, .int .i64 c, .int .i64 d], .agg #[.int .i64 p, .int .i64 q, .int .i64 r, .int .i64 s]] w fun e w' => e = .returned (.bool (touchS (a, b, c, d) (p, q, r, s))) ∧ Ext w w' := by
  have HT := Lib.hid (show touchS (a, b, c, d) (p, q, r, s) = ((decide (d = q) || decide (s = b)) && decide (max a p < min c r)) from rfl)
  have hE0 := (Ext.alloc w (.cells #[.int .i64 a, .int .i64 b, .int .i64 c, .int .i64 d] 29)).trans (Ext.alloc _ (.cells #[.int .i64 p, .int .i64 q, .int .i64 r, .int .i64 s] 29))
  have b2 := (Box.new w 29 #[.int .i64 a, .int .i64 b, .int .i64 c, .int .i64 d]).alloc (.cells #[.int .i64 p, .int .i64 q, .int .i64 r, .int .i64 s] 29)
  have b3 := Box.at1 (w := w) (o := .cells #[.int .i64 a, .int .i64 b, .int .i64 c, .int .i64 d] 29) (t := 29) (cs := #[.int .i64 p, .int .i64 q, .int .i64 r, .int .i64 s])
  have c2 := b2.cell
  have c3 := b3.cell
  go_enter Try.func66, Try.ntmps66
  by_cases h1 : d = q
  · subst h1
    have d1 : (d == d) = true := by simp
    go_wp2
    go_ret
    exact ⟨ret_eq (by rw [HT.out]; simp), hE0⟩
  · have d1 : (d == q) = false := by simpa using h1
    by_cases h2 : s = b
    · subst h2
      have d2 : (s == s) = true := by simp
      go_wp2
      go_ret
      exact ⟨ret_eq (by rw [HT.out]; simp), hE0⟩
    · have d2 : (s == b) = false := by simpa using h2
      go_wp2
      go_ret
      exact ⟨ret_eq (by rw [HT.out]; simp [h1, h2]), hE0⟩
set_option maxHeartbeats 1600000 in
theorem adjacent_any (a b c d p q r s : Int) (w : World) :
    Calls Try.prog 84 #[.agg #[.int .i64 a, .int .i64 b, .int .i64 c, .int .i64 d], .agg #[.int .i64 p, .int .i64 q, .int .i64 r, .int .i64 s]] w fun e w' => e = .returned (.bool (adjS (a, b, c, d) (p, q, r, s))) ∧ Ext w w' := by
  have HT := Lib.hid (show adjS (a, b, c, d) (p, q, r, s) = (if d = q ∨ s = b then decide (max a p < min c r) else if c = p ∨ r = a then decide (max b q < min d s) else false) from rfl)
  have HO := Lib.hid (fun a b c d W => overlap_any a b c d W)
  have hE0 := (Ext.alloc w (.cells #[.int .i64 a, .int .i64 b, .int .i64 c, .int .i64 d] 29)).trans (Ext.alloc _ (.cells #[.int .i64 p, .int .i64 q, .int .i64 r, .int .i64 s] 29))
  have b2 := (Box.new w 29 #[.int .i64 a, .int .i64 b, .int .i64 c, .int .i64 d]).alloc (.cells #[.int .i64 p, .int .i64 q, .int .i64 r, .int .i64 s] 29)
  have b3 := Box.at1 (w := w) (o := .cells #[.int .i64 a, .int .i64 b, .int .i64 c, .int .i64 d] 29) (t := 29) (cs := #[.int .i64 p, .int .i64 q, .int .i64 r, .int .i64 s])
  have c2 := b2.cell
  have c3 := b3.cell
  go_enter Try.func84, Try.ntmps84
  by_cases h1 : d = q ∨ s = b
  · rw [if_pos h1] at HT
    have hb : (d == q || s == b) = true := by simpa using h1
    by_cases h3 : d = q
    · subst h3
      have d1 : (d == d) = true := by simp
      clear hb h1
      go_wp2_with fail
      refine (HO.out _ _ _ _ _).mono ?_
      rintro e w1 ⟨rfl, rfl⟩
      go_wp2
      go_ret
      exact ⟨ret_eq (by rw [HT.out]; rfl), hE0⟩
    · have h4 : s = b := h1.resolve_left h3
      subst h4
      have d1 : (d == q) = false := by simpa using h3
      have d2 : (s == s) = true := by simp
      clear hb h1
      go_wp2_with fail
      refine (HO.out _ _ _ _ _).mono ?_
      rintro e w1 ⟨rfl, rfl⟩
      go_wp2
      go_ret
      exact ⟨ret_eq (by rw [HT.out]; rfl), hE0⟩
  · rw [if_neg h1] at HT
    have d1 : (d == q) = false := by simpa using fun e => h1 (.inl e)
    have d2 : (s == b) = false := by simpa using fun e => h1 (.inr e)
    clear h1
    by_cases h3 : c = p
    · subst h3
      rw [if_pos (.inl rfl)] at HT
      have d3 : (c == c) = true := by simp
      go_wp2_with fail
      refine (HO.out _ _ _ _ _).mono ?_
      rintro e w1 ⟨rfl, rfl⟩
      go_wp2
      go_ret
      exact ⟨ret_eq (by rw [HT.out]; rfl), hE0⟩
    · have d3 : (c == p) = false := by simpa using h3
      by_cases h4 : r = a
      · subst h4
        rw [if_pos (.inr rfl)] at HT
        have d4 : (r == r) = true := by simp
        go_wp2_with fail
        refine (HO.out _ _ _ _ _).mono ?_
        rintro e w1 ⟨rfl, rfl⟩
        go_wp2
        go_ret
        exact ⟨ret_eq (by rw [HT.out]; rfl), hE0⟩
      · rw [if_neg (by omega)] at HT
        have d4 : (r == a) = false := by simpa using h4
        go_wp2
        go_ret
        exact ⟨ret_eq (by rw [HT.out]; rfl), hE0⟩
set_option maxRecDepth 100000 in
set_option maxHeartbeats 1600000 in
theorem Lists_any (C D : List (List R4)) (ss ts : List (Option Addr × Nat × Nat)) (A1 A2 : Option Addr) (n1 c1 n2 c2 : Nat) (w : World) (hn1 : ss.length = n1) (hn2 : ts.length = n2) (hb1 : n1 ≤ 1000000) (hb2 : n2 ≤ 1000000)
    (h1 : slE.At w A1 ss) (h2 : slE.At w A2 ts) (k1 : RowsOf w ss C) (k2 : RowsOf w ts D) :
    Calls Try.prog 39 #[.slice A1 n1 c1, .slice A2 n2 c2] w fun e w' => e = .returned (.bool (decide (C = D))) ∧ Ext w w' := by
  have HC := Lib.hid (show C.length = n1 from by rw [← k1.1, hn1])
  have HD := Lib.hid (show D.length = n2 from by rw [← k2.1, hn2])
  clear hn1 hn2
  go_enter Try.func39, Try.ntmps39
  by_cases hnk : n1 = n2
  · subst hnk
    have d1 : ((n1 : Int) == (n1 : Int)) = true := by simp
    go_wp2_with fail
    go_loopw [5] (fun i wr => ∃ j : Nat, j ≤ n1 ∧ i = .int .i64 j ∧ Ext w wr ∧ Hid (C.take j = D.take j)) (fun i _ => n1 - (intOf i).toNat)
    case atStart => exact ⟨0, Nat.zero_le _, rfl, Ext.refl _, Lib.hid (by simp)⟩
    case round =>
      obtain ⟨j, hj, rfl, hE, HT⟩ := hrel
      by_cases hlt : j < n1
      · have dj : ((j : Int) < (n1 : Int)) = True := eq_true (by omega)
        obtain ⟨x, hlx⟩ : ∃ q, C[j]? = some q := ⟨_, List.getElem?_eq_getElem (by rw [HC.out]; exact hlt)⟩
        obtain ⟨y, hly⟩ : ∃ q, D[j]? = some q := ⟨_, List.getElem?_eq_getElem (by rw [HD.out]; exact hlt)⟩
        obtain ⟨B1, m1, e1, hs1, hm1, hmb1, hat1⟩ := k1.2 j x hlx
        obtain ⟨B2, m2, e2, hs2, hm2, hmb2, hat2⟩ := k2.2 j y hly
        obtain ⟨b, o, rfl⟩ := h1.addr hs1
        obtain ⟨b', o', rfl⟩ := h2.addr hs2
        have e0 := hE.cell (h1.cellAt (j := 0) hs1 rfl)
        have f0 := hE.cell (h2.cellAt (j := 0) hs2 rfl)
        simp only [slE, Nat.mul_one, Nat.add_zero] at e0 f0
        have HROW := Lib.hid (fun W (k : Ext w W) => Rows_any x y B1 B2 e1 e2 m1 m2 W hm1 hm2 hmb1 hmb2 (hat1.ext k) (hat2.ext k))
        have HX := Lib.hid hlx
        have HY := Lib.hid hly
        clear hlx hly hs1 hs2 hm1 hm2 hmb1 hmb2 hat1 hat2
        obtain ⟨t, ht⟩ : ∃ t, decide (x = y) = t := ⟨_, rfl⟩
        rw [ht] at HROW
        have HTT := Lib.hid ht
        clear ht
        go_wp2_with fail
        apply wp_region_par' 10 (by kernel_rfl) (by kernel_rfl) rfl
        simp only [List.take_succ_cons, List.take_zero, List.drop_succ_cons, List.drop_zero]
        generalize hW : World.drew _ = W
        have hEW : Ext wr W := by rw [← hW]; exact Ext.drew _
        clear hW
        have z0 := fun z : Later W => z.cell (hEW.cell e0)
        have z1 := fun z : Later W => z.cell (hEW.cell f0)
        have hEw := hE.trans hEW
        iterate 10
          refine parW_step rfl (fun K hK => ?_)
          apply Exists.intro
          refine ⟨fun z => ?_, ?_⟩
          focus
            go_simp
            first
              | rfl
              | with_reducible exact calls_val (HROW.out _ (hEw.later z))
          go_simp
          refine hK _ ?_
          clear hK K
        refine parW_end (fun z => ?_)
        replace hE := hEw.later z
        clear z0 z1 hEw e0 f0
        generalize z.val = Z at *
        clear z hEW
        cases t
        · have HS := Lib.hid (show ¬ C = D from fun e => by
            have h := HX.out
            rw [e, HY.out] at h
            injection h with h
            exact of_decide_eq_false HTT.out h.symm)
          go_wp2
          go_ret
          exact ⟨ret_eq (by rw [decide_eq_false HS.out]; rfl), hE⟩
        · have HS := Lib.hid (show C.take (j + 1) = D.take (j + 1) from by
            rw [List.take_add_one, List.take_add_one, HX.out, HY.out, HT.out, of_decide_eq_true HTT.out])
          go_wp2
          go_roundw
          case rel => exact ⟨j + 1, by omega, by go_num, hE, HS⟩
          case measure => simp [intOf]; omega
      · have HS := Lib.hid (show C = D from by
          have := HT.out
          rwa [List.take_of_length_le (by rw [HC.out]; omega), List.take_of_length_le (by rw [HD.out]; omega)] at this)
        have d3 : ((j : Int) < (n1 : Int)) = False := eq_false (by omega)
        go_wp2
        go_ret
        exact ⟨ret_eq (by rw [decide_eq_true HS.out]; rfl), hE⟩
  · have d1 : ((n1 : Int) == (n2 : Int)) = false := by simp; omega
    have HS := Lib.hid (show ¬ C = D from fun e => hnk (by rw [← HC.out, ← HD.out, e]))
    clear hnk
    go_wp2
    go_ret
    exact ⟨ret_eq (by rw [decide_eq_false HS.out]; rfl), Ext.refl _⟩
end Go.Proofs.Ytkjpcjmbhpfelaa
