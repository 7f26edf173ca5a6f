/- Orient in the reference. -/
import Derived.Test.YthfeamlioiaebaaOrient2
set_option linter.unusedVariables false
set_option linter.unusedSimpArgs false
namespace Go.Proofs.Ythfeamlioiaebaa
open Go.RowKit Go.Par Go.Sort

set_option maxRecDepth 100000 in
set_option maxHeartbeats 800000 in
theorem refOrient_any (l : List P2) (A : Option Addr) (c n : Nat) (w : World) (hn : n = l.length) (hlc : n ≤ c) (hc : n ≤ 1000000) (hP : PtsAt w A l) :
    Calls Try.prog 35 #[.slice A n c] w fun e w' => ∃ v, e = .returned v ∧ Ext w w' ∧ Own w' w.heap.size v (orientL l) := by
  have HN := Lib.hid hn
  have HD := Lib.hid (rDoubleArea_any l A c n w hn hlc (by omega) hP)
  have HC := Lib.hid (fun W (h : Ext w W) => copied_any l A c W (by rw [← hn]; exact hc) (hP.ext h))
  rw [← hn] at HC
  have hne : areaS l ≠ 0 → 0 < n := fun h => by
    rw [hn]
    cases l with
    | nil => exact absurd rfl h
    | cons p t => simp
  have HO := Lib.hid (show orientL l = if areaS l = 0 then [] else if areaS l < 0 then revS l else l from rfl)
  generalize areaS l = a at *
  clear hn
  by_cases hpos : 0 < a
  · have E := Lib.hid (show orientL l = l from by rw [HO.out, if_neg (by omega), if_neg (by omega)])
    clear hne
    go_enter Try.func35, Try.ntmps35
    go_wp2_with fail
    refine HD.out.mono ?_
    rintro e w1 ⟨rfl, hE⟩
    go_wp2_with fail
    refine (HC.out _ hE).mono ?_
    rintro e w2 ⟨v, rfl, hE2, hown⟩
    have hE3 := hE.trans hE2
    have hs := hE.size
    clear hE hE2
    go_wp2
    go_ret
    refine ⟨_, rfl, hE3, ?_⟩
    rw [E.out]
    rcases hown.2 with ⟨e1, h0⟩ | ⟨g, cap, cur, e1, hb, h2⟩
    · exact ⟨hown.1, .inl ⟨e1, h0⟩⟩
    · exact ⟨hown.1, .inr ⟨g, cap, cur, e1, Nat.le_trans hs hb, h2⟩⟩
  · by_cases ha : a = 0
    · subst ha
      have E := Lib.hid (show orientL l = [] from by rw [HO.out, if_pos rfl])
      clear hne
      go_enter Try.func35, Try.ntmps35
      go_wp2_with fail
      refine HD.out.mono ?_
      rintro e w1 ⟨rfl, hE⟩
      have hs := hE.size
      go_wp2
      go_ret
      refine ⟨_, rfl, hE.trans (Ext.alloc _ _), ?_⟩
      rw [E.out]
      exact (Own.made w1).base hs
    · have hn0 := hne ha
      have hneg : a < 0 := by omega
      have E := Lib.hid (show orientL l = revS l from by rw [HO.out, if_neg ha, if_pos hneg])
      have HREV := Lib.hid (show ∀ j : Nat, j < n → ∃ x y, l[j]? = some (x, y) ∧ (l.drop j).reverse = (l.drop (j + 1)).reverse ++ [(x, y)] from fun j hj => by
        have hj' : j < l.length := by rw [← HN.out]; exact hj
        exact ⟨l[j].1, l[j].2, List.getElem?_eq_getElem hj', by rw [List.drop_eq_getElem_cons hj', List.reverse_cons]⟩)
      obtain ⟨⟨x0, y0⟩, hl0⟩ : ∃ q, l[0]? = some q := ⟨_, List.getElem?_eq_getElem (by rw [← HN.out]; exact hn0)⟩
      have ht1 : l.take 1 = [(x0, y0)] := by
        have := take_snoc hl0
        simpa using this
      obtain ⟨b, o, rfl, hcell⟩ := hP (fun e => by rw [e] at hl0; simp at hl0)
      have HT1 := Lib.hid ht1
      have c0 := (hcell 0 _ hl0).1
      have c1 := (hcell 0 _ hl0).2
      rw [Nat.zero_mul, Nat.add_zero] at c0 c1
      clear ht1 hl0 hne ha
      go_enter Try.func35, Try.ntmps35
      go_wp2_with fail
      refine HD.out.mono ?_
      rintro e w1 ⟨rfl, hE⟩
      have d0 := hE.cell c0
      have d1 := hE.cell c1
      clear c0 c1
      go_wp2_with (at_builtin; refine wpList_app rfl _ _ rfl w1.heap.size _ _ [] [(x0, y0)] rfl rfl ((Own.made w1).ext (Ext.alloc _ _)) (Pts.one Box.at1) (by simp) (by simp <;> omega) ?_; intro v' w2 hown2 hg)
      have hE2 := Ext.grow ((Ext.alloc w1 _).trans (Ext.alloc _ _)) ((Own.made w1).ext (Ext.alloc _ _)) (Nat.le_refl _) hg
      have hE3 := hE.trans hE2
      have hs1 := hE.size
      have hs2 := hE2.size
      clear hE hE2 hg d0 d1
      go_loopw [4, 5] (fun s i wr => ∃ j : Nat, j < n ∧ i = .int .i64 j ∧ Ext w wr ∧ w1.heap.size ≤ wr.heap.size ∧ Own wr w1.heap.size s ((x0, y0) :: (l.drop (j + 1)).reverse)) (fun _ i _ => (intOf i).toNat)
      case atStart => exact ⟨n - 1, by omega, by rw [Int.ofNat_sub hn0]; rfl, hE3, hs2, by rw [List.drop_eq_nil_of_le (by rw [← HN.out]; omega)]; exact hown2⟩
      case round =>
        clear hE3 hown2
        obtain ⟨j, hj, rfl, hE, hsz, hown⟩ := hrel
        by_cases hj0 : j = 0
        · subst hj0
          have e : (x0, y0) :: (l.drop (0 + 1)).reverse = revS l := by
            unfold revS
            rw [HT1.out]
            rfl
          rw [e] at hown
          clear e
          go_wp2
          go_ret
          refine ⟨_, rfl, hE, ?_⟩
          rw [E.out]
          obtain ⟨g, cap, rfl, hg, _⟩ := hown.head (by rw [revS_length, ← HN.out]; exact hn0)
          exact hown.base (by omega)
        · obtain ⟨x, y, hlk, hrv⟩ := HREV.out j hj
          have e0 := hE.cell (hcell j _ hlk).1
          have e1 := hE.cell (hcell j _ hlk).2
          have hlen : ((x0, y0) :: (l.drop (j + 1)).reverse).length + 1 ≤ 1000000000 := by rw [List.length_cons, List.length_reverse, List.length_drop, ← HN.out]; omega
          have HRV := Lib.hid hrv
          have hj1 : (0 : Int) < (j : Int) := by omega
          obtain ⟨i, rfl⟩ : ∃ i, j = i + 1 := ⟨j - 1, by omega⟩
          clear hlk hrv
          go_wp2_with (at_builtin; refine wpList_app rfl _ _ rfl w1.heap.size _ _ _ _ rfl rfl (hown.ext (Ext.alloc _ _)) (Pts.one (Box.new _ _ _)) hlen (by simp <;> omega) ?_; intro v3 w3 hown3 hg3)
          have hE6 := Ext.grow (hE.trans (Ext.alloc _ _)) (hown.ext (Ext.alloc _ _)) hs1 hg3
          have hsz3 : w1.heap.size ≤ w3.heap.size := by have := hg3.size; simp at this; omega
          go_roundw
          case rel => exact ⟨i, by omega, by first | go_num | (simp; omega), hE6, hsz3, by rw [HRV.out]; exact hown3⟩
          case measure => simp [intOf]
end Go.Proofs.Ythfeamlioiaebaa
