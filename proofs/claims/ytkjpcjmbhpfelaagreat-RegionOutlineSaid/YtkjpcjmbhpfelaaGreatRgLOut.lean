/- RegionOutline: the walk. -/
import Derived.Test.YtkjpcjmbhpfelaaGreatRgRefO
import Derived.Test.YtkjpcjmbhpfelaaGreatRgEx
set_option linter.unusedVariables false
set_option linter.unusedSimpArgs false
namespace Go.Proofs.YtkjpcjmbhpfelaaGreat
open Go.RowKit Go.Par Go.Reg

/-- a slice of points that reads as a ring -/
def RowA (w : World) (t : RSl) : Prop := t.2.length = t.1.2.1 ∧ t.1.2.1 ≤ 300000000 ∧ ptE.At w t.1.1 (t.2.map scl)
theorem RowA.ext {w w' : World} {t : RSl} (h : RowA w t) (he : Ext w w') : RowA w' t := ⟨h.1, h.2.1, h.2.2.ext he⟩
set_option maxRecDepth 100000 in
set_option maxHeartbeats 6400000 in
theorem rings_any (T T' : List RSl) (A A' : Option Addr) (n c c' : Nat) (w : World) (hn : T.length = n) (hn' : T'.length = n) (hb : n ≤ 300000000) (he : T.map (fun t => t.2) = T'.map fun t => t.2) (hA : ptsE.At w A (T.map fun t => t.1)) (hA' : ptsE.At w A' (T'.map fun t => t.1))
    (hT : ∀ t ∈ T, RowA w t) (hT' : ∀ t ∈ T', RowA w t) :
    Calls Tryz.prog 8 #[.slice A n c, .slice A' n c'] w fun e w' => e = .returned (.bool true) ∧ Ext w w' := by
  have HN := Lib.hid hn
  have HN' := Lib.hid hn'
  have HQ := Lib.hid (fun (i : Nat) (t t' : RSl) (h : T[i]? = some t) (h' : T'[i]? = some t') => show t.2 = t'.2 from by
    have h1 : (T.map fun t => t.2)[i]? = some t.2 := by rw [List.getElem?_map, h]; rfl
    rw [he, List.getElem?_map, h'] at h1
    exact (Option.some.inj h1).symm)
  have HT := Lib.hid hT
  have HT' := Lib.hid hT'
  clear hn hn' he hT hT'
  go_enter Tryz.func8, Tryz.ntmps8
  go_wp2_with fail
  go_loopw [5] (fun i wr => ∃ k : Nat, k ≤ n ∧ i = .int .i64 k ∧ Ext w wr) (fun i _ => n - (intOf i).toNat)
  case atStart => exact ⟨0, Nat.zero_le _, rfl, Ext.refl _⟩
  case round =>
    obtain ⟨k, hk, rfl, hE⟩ := hrel
    by_cases hlt : k < n
    · have dk : ((k : Int) < (n : Int)) = True := eq_true (by omega)
      obtain ⟨⟨⟨ta, tn, tc⟩, tR⟩, ht⟩ : ∃ q, T[k]? = some q := ⟨_, List.getElem?_eq_getElem (by rw [HN.out]; exact hlt)⟩
      obtain ⟨⟨⟨sa, sn, sc⟩, sR⟩, hs⟩ : ∃ q, T'[k]? = some q := ⟨_, List.getElem?_eq_getElem (by rw [HN'.out]; exact hlt)⟩
      have hq := HQ.out k _ _ ht hs
      dsimp only at hq
      subst hq
      obtain ⟨t1, t2, t3⟩ := HT.out _ (List.mem_of_getElem? ht)
      obtain ⟨s1, s2, s3⟩ := HT'.out _ (List.mem_of_getElem? hs)
      dsimp only at t1 t2 t3 s1 s2 s3
      have hts : tn = sn := t1.symm.trans s1
      subst hts
      have HTN := Lib.hid t1
      clear t1 s1 s2
      have pt : (T.map fun t => t.1)[k]? = some (ta, tn, tc) := by rw [List.getElem?_map, ht]; rfl
      have ps : (T'.map fun t => t.1)[k]? = some (sa, tn, sc) := by rw [List.getElem?_map, hs]; rfl
      obtain ⟨bA, oA, rfl⟩ := hA.addr pt
      obtain ⟨bB, oB, rfl⟩ := hA'.addr ps
      have h0' := ptsc_cell hA pt
      have h1' := ptsc_cell hA' ps
      dsimp only at h0' h1'
      have h0 := hE.cell h0'
      have h1 := hE.cell h1'
      have dn : ((tn : Int) != (tn : Int)) = false := by simp
      clear ht hs pt ps
      go_wp2_with fail
      apply wp_region_par' 11 (by kernel_rfl) (by kernel_rfl) rfl
      simp only [List.take_succ_cons, List.take_zero, List.drop_succ_cons, List.drop_zero]
      generalize hW : World.drew _ = W
      have hEW : Ext wr W := by rw [← hW]; exact Ext.drew _
      clear hW
      have E0 := fun z : Later W => z.cell (hEW.cell h0)
      have E1 := fun z : Later W => z.cell (hEW.cell h1)
      iterate 11
        refine parW_step rfl (fun K hK => ?_)
        apply Exists.intro
        refine ⟨fun z => ?_, ?_⟩
        focus
          go_simp
          first
            | rfl
            | fail
        go_simp
        refine hK _ ?_
        clear hK K
      refine parW_end (fun z => ?_)
      have hE2 := hE.trans (hEW.later z)
      clear E0 E1 h0 h1
      generalize z.val = Z at *
      clear z hEW hE
      go_wp2_with fail
      go_loopw [6] (fun i wz => ∃ j : Nat, j ≤ tn ∧ i = .int .i64 j ∧ Ext w wz) (fun i _ => tn - (intOf i).toNat)
      case atStart => exact ⟨0, Nat.zero_le _, rfl, hE2⟩
      case round =>
        clear hE2
        obtain ⟨j, hj, rfl, hE⟩ := hrel
        have h0 := hE.cell h0'
        have h1 := hE.cell h1'
        by_cases hlj : j < tn
        · have dj : ((j : Int) < (tn : Int)) = True := eq_true (by omega)
          obtain ⟨p, hp⟩ : ∃ p, (tR.map scl)[j]? = some p := ⟨_, List.getElem?_eq_getElem (by rw [List.length_map, HTN.out]; exact hlj)⟩
          obtain ⟨bT, oT, rfl⟩ := t3.addr hp
          obtain ⟨bS, oS, rfl⟩ := s3.addr hp
          obtain ⟨a0, a1⟩ := ptc_cell t3 hp
          obtain ⟨b0, b1⟩ := ptc_cell s3 hp
          replace a0 := hE.cell a0
          replace a1 := hE.cell a1
          replace b0 := hE.cell b0
          replace b1 := hE.cell b1
          obtain ⟨p0, p1⟩ := p
          dsimp only at a0 a1 b0 b1
          have dp0 : (p0 == p0) = true := by simp
          have dp1 : (p1 == p1) = true := by simp
          clear hp
          go_wp2_with fail
          apply wp_region_par' 15 (by kernel_rfl) (by kernel_rfl) rfl
          simp only [List.take_succ_cons, List.take_zero, List.drop_succ_cons, List.drop_zero]
          generalize hW : World.drew _ = W
          have hEW : Ext wr W := by rw [← hW]; exact Ext.drew _
          clear hW
          have E0 := fun z : Later W => z.cell (hEW.cell h0)
          have E1 := fun z : Later W => z.cell (hEW.cell h1)
          have A0 := fun z : Later W => z.cell (hEW.cell a0)
          have A1 := fun z : Later W => z.cell (hEW.cell a1)
          have B0 := fun z : Later W => z.cell (hEW.cell b0)
          have B1 := fun z : Later W => z.cell (hEW.cell b1)
          iterate 15
            refine parW_step rfl (fun K hK => ?_)
            apply Exists.intro
            refine ⟨fun z => ?_, ?_⟩
            focus
              go_simp
              first
                | rfl
                | fail
            go_simp
            refine hK _ ?_
            clear hK K
          refine parW_end (fun z => ?_)
          have hE2 := hE.trans (hEW.later z)
          clear E0 E1 h0 h1 A0 A1 B0 B1 a0 a1 b0 b1
          generalize z.val = Z at *
          clear z hEW hE
          go_wp2
          go_roundw
          case rel => exact ⟨j + 1, by omega, by go_num, hE2⟩
          case measure => simp [intOf]; omega
        · have dj : ((j : Int) < (tn : Int)) = False := eq_false (by omega)
          go_wp2
          go_roundw
          case rel => exact ⟨k + 1, by omega, by go_num, hE⟩
          case measure => simp [intOf]; omega
    · have dk : ((k : Int) < (n : Int)) = False := eq_false (by omega)
      go_wp2
      go_ret
      exact ⟨ret_eq rfl, hE⟩
/-- two results of Outline: the same rings, the same error -/
theorem outs_same {l : List R4} {v v' : Value} {er er' : Int} {w w' : World} (h : OutRes l v er w) (k : OutResR l v' er' w') :
    er' = er ∧ ∃ A n c A' n' c', v = .slice A n c ∧ v' = .slice A' n' c' ∧ ∀ W, Ext w W → Ext w' W → Calls Tryz.prog 8 #[v, v'] W fun e w'' => e = .returned (.bool true) ∧ Ext W w'' := by
  obtain ⟨L, h1, h2⟩ := h
  obtain ⟨L', k1, k2⟩ := k
  have e : L = L' := h1.uniq k1 fun _ _ => rfl
  subst e
  rcases h2 with ⟨a1, rfl, A, n, c, T, rfl, a2, a3, a4, a5, a6, a7, _⟩ | ⟨a1, rfl, rfl⟩
  · rcases k2 with ⟨b1, rfl, A', n', c', T', rfl, b2, b3, b5, b6, b7⟩ | ⟨b1, _, _⟩
    · have e2 := a7.uniq b7
      have e3 : n = n' := by
        have := congrArg List.length e2
        rw [List.length_map, List.length_map, a2, b2] at this
        exact this
      subst e3
      exact ⟨rfl, A, n, c, A', n, c', rfl, rfl, fun W k1 k2 => rings_any T T' A A' n c c' W a2 b2 b3 e2 (a5.ext k1) (b5.ext k2)
        (fun t ht => ⟨(a6 t ht).1, by have := (a6 t ht).2.1; omega, (a6 t ht).2.2.2.2.at.ext k1⟩) (fun t ht => ⟨(b6 t ht).1, (b6 t ht).2.1, (b6 t ht).2.2.2.at.ext k2⟩)⟩
    · omega
  · rcases k2 with ⟨b1, _⟩ | ⟨b1, rfl, rfl⟩
    · omega
    · exact ⟨rfl, none, 0, 0, none, 0, 0, rfl, rfl, fun W _ _ => rings_any [] [] none none 0 0 0 W rfl rfl (by omega) rfl (EL.At.nil _ _) (EL.At.nil _ _) (fun t h => absurd h List.not_mem_nil) (fun t h => absurd h List.not_mem_nil)⟩
set_option maxRecDepth 100000 in
set_option maxHeartbeats 6400000 in
theorem regionOutline_any (l : List R4) (A : Option Addr) (n c : Nat) (w : World) (hn : l.length = n) (h1 : rectE.At w A l) :
    Calls Tryz.prog 3 #[.slice A n c] w fun e w' => e = .returned (.bool true) ∧ Ext w w' := by
  go_enter Tryz.func3, Tryz.ntmps3
  go_wp2_with fail
  refine (few_any _ _ _ _ _ _ _).mono ?_
  rintro e w0 ⟨rfl, rfl⟩
  by_cases hf : n ≤ 24 ∧ 0 ≤ 24
  rotate_left
  · rw [decide_eq_false hf]
    clear hf hn h1
    go_wp2_with fail
    refine (example_any _).mono ?_
    rintro e w1 ⟨rfl, hE⟩
    go_wp2
    go_ret
    exact ⟨rfl, hE⟩
  · rw [decide_eq_true hf]
    have HEX := Lib.hid (fun W (k : Ext w W) => example_any W)
    have HN1 := Lib.hid (fun (W : World) (k : Ext w W) => outline_any l A n c W hn (by omega) (h1.ext k))
    have HN2 := Lib.hid (fun (W : World) (k : Ext w W) => rOutline_any l A n c W hn (by omega) (h1.ext k))
    clear hn h1 hf
    go_wp2_with fail
    refine (HN1.out _ (Ext.refl _)).mono ?_
    rintro e w1 ⟨v1, r1, rfl, hE1, hr1⟩
    have HR1 := Lib.hid hr1
    clear hr1
    go_wp2_with fail
    refine (HN2.out _ hE1).mono ?_
    rintro e w2 ⟨v2, r2, rfl, hE2, hr2⟩
    obtain ⟨rfl, B1, m, d1, B2, m2, d2, rfl, rfl, hrows⟩ := outs_same HR1.out hr2
    have HROW := Lib.hid (fun W (k : Ext w2 W) => hrows W (hE2.trans k) k)
    have HE := Lib.hid (hE1.trans hE2)
    replace HEX := Lib.hid (fun W (k : Ext w2 W) => HEX.out W (HE.out.trans k))
    clear hr2 HR1 hrows hE1 hE2 HN1 HN2
    have hX := Ext.refl w2
    have dr : (r2 == r2) = true := by simp
    go_wp2_with (first
          | ((go_at_call 8; with_reducible refine (HROW.out _ hX).mono ?_); rintro e w9 ⟨rfl, k9⟩; replace hX := hX.trans k9; clear k9)
          | ((go_at_call 5; with_reducible refine (HEX.out _ hX).mono ?_); rintro e w9 ⟨rfl, k9⟩; replace hX := hX.trans k9; clear k9))
    go_ret
    exact ⟨ret_eq (by simp), HE.out.trans hX⟩
end Go.Proofs.YtkjpcjmbhpfelaaGreat
