/- Same of the reference: two rows of bitmaps. -/
import Derived.Test.YtefdheoalonbaaaBmEq
set_option linter.unusedVariables false
set_option linter.unusedSimpArgs false
namespace Go.Proofs.Ytefdheoalonbaaa
open Go.RowKit Go.Par

set_option maxRecDepth 100000 in
set_option maxHeartbeats 1600000 in
theorem Same_any (A1 A2 : Option Addr) (c1 c2 n k : Nat) (ss1 ss2 : List BS) (bs1 bs2 : List BM) (w : World) (hn : ss1.length = n) (hk : ss2.length = k) (hb1 : n ≤ 17592186044416) (hb2 : k ≤ 17592186044416) (h1 : bmE.At w A1 ss1) (h2 : bmE.At w A2 ss2) (q1 : BmsOf w ss1 bs1) (q2 : BmsOf w ss2 bs2) :
    Calls Try.prog 24 #[.slice A1 n c1, .slice A2 k c2] w fun e w' => e = .returned (.bool (decide (bs1 = bs2))) ∧ Ext w w' := by
  have HN := Lib.hid (show bs1.length = n from by rw [← q1.1]; exact hn)
  have HK := Lib.hid (show bs2.length = k from by rw [← q2.1]; exact hk)
  clear hn hk
  go_enter Try.func24, Try.ntmps24
  by_cases hnk : n = k
  · subst hnk
    have d1 : ((n : Int) == (n : Int)) = true := by simp
    go_wp2_with fail
    go_loopw [5] (fun i wr => ∃ j : Nat, j ≤ n ∧ i = .int .i64 j ∧ Ext w wr ∧ Hid (bs1.take j = bs2.take j)) (fun i _ => n - (intOf i).toNat)
    case atStart => exact ⟨0, Nat.zero_le _, rfl, Ext.refl _, Lib.hid (by simp)⟩
    case round =>
      obtain ⟨j, hj, rfl, hE, HT⟩ := hrel
      by_cases hlt : j < n
      · have dj : ((j : Int) < (n : Int)) = True := eq_true (by omega)
        obtain ⟨⟨⟨r0, r1, r2, r3⟩, l⟩, hb1j⟩ : ∃ q, bs1[j]? = some q := ⟨_, List.getElem?_eq_getElem (by rw [HN.out]; exact hlt)⟩
        obtain ⟨⟨⟨p0, p1, p2, p3⟩, m⟩, hb2j⟩ : ∃ q, bs2[j]? = some q := ⟨_, List.getElem?_eq_getElem (by rw [HK.out]; exact hlt)⟩
        obtain ⟨⟨q, B1, n1, k1⟩, hs1, u1, u2, u3, u4, u5⟩ := q1.2 j _ hb1j
        obtain ⟨⟨q', B2, n2, k2⟩, hs2, v1, v2, v3, v4, v5⟩ := q2.2 j _ hb2j
        dsimp only at u1 u2 u3 u4 u5 v1 v2 v3 v4 v5
        subst u1
        subst v1
        obtain ⟨b, o, rfl, hcell⟩ := h1 (fun e => by rw [e] at hs1; simp at hs1)
        obtain ⟨b', o', rfl, hcell'⟩ := h2 (fun e => by rw [e] at hs2; simp at hs2)
        obtain ⟨e0, e1, e2, e3, e4⟩ := bm_cells hcell hs1
        obtain ⟨f0, f1, f2, f3, f4⟩ := bm_cells hcell' hs2
        dsimp only at e0 e1 e2 e3 e4 f0 f1 f2 f3 f4
        have HX := Lib.hid hb1j
        have HY := Lib.hid hb2j
        have HEQ := Lib.hid (fun W (kk : Ext w W) => BmEqual_any r0 r1 r2 r3 p0 p1 p2 p3 B1 B2 k1 k2 n1 n2 l m W u2.symm v2.symm (by omega) (by omega) (u5.ext kk) (v5.ext kk))
        clear hcell hcell' hs1 hs2 hb1j hb2j u2 v2 u3 v3 u4 v4 u5 v5
        go_wp2_with fail
        apply wp_region_par' 10 (by kernel_rfl) (by kernel_rfl) rfl
        simp only [List.take_succ_cons, List.take_zero, List.drop_succ_cons, List.drop_zero]
        generalize hW : World.drew _ = W
        have hEW : Ext w W := by rw [← hW]; exact hE.trans (Ext.drew _)
        have hEr : Ext wr W := by rw [← hW]; exact Ext.drew _
        clear hW
        replace e0 := fun z : Later W => z.cell (hEW.cell e0)
        replace e1 := fun z : Later W => z.cell (hEW.cell e1)
        replace e2 := fun z : Later W => z.cell (hEW.cell e2)
        replace e3 := fun z : Later W => z.cell (hEW.cell e3)
        replace e4 := fun z : Later W => z.cell (hEW.cell e4)
        replace f0 := fun z : Later W => z.cell (hEW.cell f0)
        replace f1 := fun z : Later W => z.cell (hEW.cell f1)
        replace f2 := fun z : Later W => z.cell (hEW.cell f2)
        replace f3 := fun z : Later W => z.cell (hEW.cell f3)
        replace f4 := fun z : Later W => z.cell (hEW.cell f4)
        by_cases hxy : ((((r0, r1, r2, r3), l) : BM) = ((p0, p1, p2, p3), m))
        · have HS := Lib.hid (show bs1.take (j + 1) = bs2.take (j + 1) from by
            rw [List.take_add_one, List.take_add_one, HX.out, HY.out, HT.out, hxy])
          rw [decide_eq_true hxy] at HEQ
          clear hxy
          iterate 10
            refine parW_step rfl (fun K hK => ?_)
            apply Exists.intro
            refine ⟨fun z => ?_, ?_⟩
            focus
              go_simp
              first
                | rfl
                | with_reducible exact calls_val (HEQ.out _ (hEW.later z))
            go_simp
            refine hK _ ?_
            clear hK K
          refine parW_end (fun z => ?_)
          have hEZ := hE.trans (hEr.later z)
          generalize z.val = Z at *
          clear z e0 e1 e2 e3 e4 f0 f1 f2 f3 f4
          go_wp2_with fail
          go_roundw
          case rel => exact ⟨j + 1, by omega, by go_num, hEZ, HS⟩
          case measure => simp [intOf]; omega
        · have HS := Lib.hid (show ¬ bs1 = bs2 from fun e => hxy (by
            have h1 := HX.out
            rw [e, HY.out] at h1
            injection h1 with h1
            exact h1.symm))
          rw [decide_eq_false hxy] at HEQ
          clear hxy
          iterate 10
            refine parW_step rfl (fun K hK => ?_)
            apply Exists.intro
            refine ⟨fun z => ?_, ?_⟩
            focus
              go_simp
              first
                | rfl
                | with_reducible exact calls_val (HEQ.out _ (hEW.later z))
            go_simp
            refine hK _ ?_
            clear hK K
          refine parW_end (fun z => ?_)
          have hEZ := hE.trans (hEr.later z)
          generalize z.val = Z at *
          clear z e0 e1 e2 e3 e4 f0 f1 f2 f3 f4
          go_wp2
          go_ret
          exact ⟨ret_eq (by rw [decide_eq_false HS.out]; rfl), hEZ⟩
      · have HS := Lib.hid (show bs1 = bs2 from by
          have := HT.out
          rwa [List.take_of_length_le (by rw [HN.out]; omega), List.take_of_length_le (by rw [HK.out]; omega)] at this)
        have d3 : ((j : Int) < (n : Int)) = False := eq_false (by omega)
        go_wp2
        go_ret
        exact ⟨ret_eq (by rw [decide_eq_true HS.out]; rfl), hE⟩
  · have d1 : ((n : Int) == (k : Int)) = false := by simp; omega
    have HS := Lib.hid (show ¬ bs1 = bs2 from fun e => hnk (by rw [← HN.out, ← HK.out, e]))
    clear hnk
    go_wp2
    go_ret
    exact ⟨ret_eq (by rw [decide_eq_false HS.out]; rfl), Ext.refl _⟩
end Go.Proofs.Ytefdheoalonbaaa
