/- The reference's Translate. -/
import Derived.Test.YthfeamlioiaebaaTrans
set_option linter.unusedVariables false
set_option linter.unusedSimpArgs false
namespace Go.Proofs.Ythfeamlioiaebaa
open Go.RowKit Go.Par

theorem OwnR.lower {w : World} {B B' : Nat} {v : Value} {vs : List Value} (h : OwnR w B v vs) (hb : B' ≤ B) : OwnR w B' v vs := by
  refine ⟨h.1, ?_⟩
  rcases h.2 with h0 | ⟨g, cap, cur, e, hg, h2⟩
  · exact .inl h0
  · exact .inr ⟨g, cap, cur, e, Nat.le_trans hb hg, h2⟩
set_option maxRecDepth 100000 in
set_option maxHeartbeats 800000 in
theorem rTranslate_any (L : List (List P2)) (A : Option Addr) (c : Nat) (bx by_ : Int) (w : World) (hc : L.length ≤ 1000000) (hS : lenS L ≤ 1000000) (hL : RingsAt w A L) :
    Calls Try.prog 39 #[.slice A L.length c, .agg #[.int .i64 bx, .int .i64 by_]] w fun e w' => ∃ v vs, e = .returned v ∧ Ext w w' ∧ OwnR w' w.heap.size v vs ∧ Elems w' w.heap.size vs (transL L (bx, by_)) := by
  have HV := Lib.hid (fun W (h : Ext w W) => rValid_any L A c W (by omega) (hL.ext h))
  obtain ⟨n, hn⟩ : ∃ n, n = L.length := ⟨_, rfl⟩
  rw [← hn] at HV hc ⊢
  have HN := Lib.hid hn
  have HSS := Lib.hid hS
  clear hn hS
  go_enter Try.func39, Try.ntmps39
  go_wp2_with fail
  go_loopw [5, 6, 7, 8] (fun s i _ _ wr => ∃ (k : Nat) (vs : List Value), k ≤ n ∧ (validL L = true ∨ k = 0) ∧ i = .int .i64 k ∧ Ext w wr ∧ Box wr w.heap.size 24 #[.int .i64 bx, .int .i64 by_] ∧ OwnR wr w.heap.size s vs ∧ Elems wr w.heap.size vs ((L.take k).map (moveR (bx, by_)))) (fun _ i _ _ _ => n - (intOf i).toNat)
  case atStart => exact ⟨0, [], Nat.zero_le _, .inr rfl, rfl, (Ext.alloc _ _).trans (Ext.alloc _ _), (Box.new _ _ _).alloc _, by have := (OwnR.made (w.alloc (.cells #[.int .i64 bx, .int .i64 by_] 24))).lower (B' := w.heap.size) (by simp); simpa using this, Elems.nil _ _⟩
  case round =>
    obtain ⟨k, vs, hk, hvk, rfl, hEr, BB, hown, hel⟩ := hrel
    have hend : (k = n ∨ validL L = false) → Elems wr w.heap.size vs (transL L (bx, by_)) := by
      intro h
      have e : transL L (bx, by_) = (L.take k).map (moveR (bx, by_)) := by
        unfold transL
        rcases h with h | h
        · rw [List.take_of_length_le (by rw [← HN.out]; omega)]
          rcases hvk with hv | h0
          · rw [hv]; rfl
          · have : L = [] := List.eq_nil_of_length_eq_zero (by rw [← HN.out]; omega)
            subst this
            split <;> rfl
        · rw [h]
          rcases hvk with hv | h0
          · rw [h] at hv; cases hv
          · subst h0; rfl
      rw [e]; exact hel
    have HEND := Lib.hid hend
    clear hend
    by_cases hlt : k < n
    · have d1 : decide ((k : Int) < (n : Int)) = true := by rw [decide_eq_true_eq]; omega
      go_wp2_with fail
      refine (HV.out _ hEr).mono ?_
      rintro e w1 ⟨rfl, hE1⟩
      cases hv : validL L
      · have hfin := (HEND.out (.inr hv)).ext hE1
        have ho := hown.ext hE1
        have hE2 := hEr.trans hE1
        clear hel hown
        go_wp2
        go_ret
        exact ⟨_, vs, rfl, hE2, ho, hfin⟩
      · have hE2 := hEr.trans hE1
        have B2 := BB.ext hE1
        have hown1 := hown.ext hE1
        have hel1 := hel.ext hE1
        obtain ⟨r, hlk⟩ : ∃ r, L[k]? = some r := ⟨_, List.getElem?_eq_getElem (by rw [← HN.out]; exact hlt)⟩
        obtain ⟨b, o, rfl, hcell⟩ := hL (fun e => by rw [e] at hlk; simp at hlk)
        obtain ⟨v, c0, A', c', rfl, hlc, hlb, hP⟩ := hcell k r hlk
        have hrl := mem_len hlk
        have hrs := HSS.out
        have hsn := map_take_snoc (moveR (bx, by_)) hlk
        have hvs : vs.length = k := by rw [hel.1, List.length_map, List.length_take, ← HN.out]; omega
        obtain ⟨m, hm⟩ : ∃ m, m = r.length := ⟨_, rfl⟩
        rw [← hm] at c0 hlc hlb hrl
        have hm6 : m ≤ 1000000 := by omega
        have HM := Lib.hid hm
        have HSN := Lib.hid hsn
        have HVS := Lib.hid hvs
        have hwo := hE2.size
        clear hlk hcell hm hsn hvs hrl hrs hE1 BB hown hel hEr HEND
        go_wp2_with fail
        go_loopw [7, 8] (fun s i wz => ∃ j : Nat, j ≤ m ∧ i = .int .i64 j ∧ Ext w1 wz ∧ Own wz w1.heap.size s (moveR (bx, by_) (r.take j))) (fun _ i _ => m - (intOf i).toNat)
        case atStart => exact ⟨0, Nat.zero_le _, rfl, Ext.alloc _ _, Own.made w1⟩
        case round =>
          obtain ⟨j, hj, rfl, hEq, hown2⟩ := hrel
          have hEw := hE2.trans hEq
          have e0 := hEw.cell c0
          have BQ := B2.ext hEq
          by_cases hlt' : j < m
          · obtain ⟨⟨x, y⟩, hlk⟩ : ∃ q, r[j]? = some q := ⟨_, List.getElem?_eq_getElem (by rw [← HM.out]; exact hlt')⟩
            obtain ⟨b', o', rfl, hcell⟩ := hP (fun e => by rw [e] at hlk; simp at hlk)
            have e1 := hEw.cell (hcell j _ hlk).1
            have e2 := hEw.cell (hcell j _ hlk).2
            have hst := map_take_snoc (fun p => addS p (bx, by_)) hlk
            have HST := Lib.hid (show moveR (bx, by_) (r.take (j + 1)) = moveR (bx, by_) (r.take j) ++ [(heldS x + heldS bx, heldS y + heldS by_)] from hst)
            have hlen : (moveR (bx, by_) (r.take j)).length + 1 ≤ 1000000000 := by unfold moveR; rw [List.length_map, List.length_take]; omega
            have HA := Lib.hid (rAdd_any x y bx by_)
            have hw1 := hEq.size
            clear hlk hcell hst
            go_wp2_with fail
            apply wp_region_par' 11 (by kernel_rfl) (by kernel_rfl) rfl
            simp only [List.take_succ_cons, List.take_zero, List.drop_succ_cons, List.drop_zero]
            generalize hW : World.drew _ = W
            have hEW : Ext wr W := by rw [← hW]; exact Ext.drew _
            have BW := BQ.ext hEW
            clear hW
            have g0 := fun z : Later W => z.cell (hEW.cell e0)
            have g1 := fun z : Later W => z.cell (hEW.cell e1)
            have g2 := fun z : Later W => z.cell (hEW.cell e2)
            have kW := BW.lcell
            have hown3 := hown2.ext hEW
            clear e0 e1 e2
            iterate 10
              refine parW_step rfl (fun K hK => ?_)
              apply Exists.intro
              refine ⟨fun z => ?_, ?_⟩
              focus
                go_simp
                first
                  | rfl
                  | with_reducible exact calls_val (HA.out _)
              go_simp
              refine hK _ ?_
              clear hK K
            refine parW_newRow (t := 24) (n := 1) (cs := #[.int .i64 (heldS x + heldS bx), .int .i64 (heldS y + heldS by_)]) rfl rfl rfl (by simp) (fun w1 => by kernel_rfl) ?_
            refine parW_fin (fun z => ?_)
            rintro v1 ⟨b5, rfl, hb5, B5⟩ hp
            clear hp g0 g1 g2 kW
            have hz := hEW.later z
            have hEz := hEq.trans hz
            have hown4 := hown3.ext z.prop
            have hszz := hEz.size
            generalize z.val = Z at *
            simp only [Act.put, List.setIfInBounds_toArray, List.set_cons_succ, List.set_cons_zero]
            go_wp2_with (at_builtin; refine wpList_app rfl _ _ rfl w1.heap.size _ _ _ _ rfl rfl hown4 (Pts.one B5) hlen hszz ?_; intro v' w4 hown5 hg)
            have hE5 := Ext.grow hEz hown4 (Nat.le_refl _) hg
            go_roundw
            case rel => exact ⟨j + 1, by omega, by go_num, hE5, by rw [HST.out]; exact hown5⟩
            case measure => simp [intOf]; omega
          · have hfin : r.take j = r := List.take_of_length_le (by rw [← HM.out]; omega)
            rw [hfin] at hown2
            have hrr : (moveR (bx, by_) r).length ≤ 1000000 := by unfold moveR; rw [List.length_map, ← HM.out]; exact hm6
            obtain ⟨A8, c8, rfl, _, _⟩ := hown2.at (n := m) (by unfold moveR; rw [List.length_map, ← HM.out]) hlb
            have hownq := hown1.ext hEq
            have helq := ((hel1.ext hEq).snoc hrr (hown2.lower hwo)).ext (Ext.alloc wr (.cells #[.slice A8 m c8] 38))
            have hw1 := hEq.size
            clear hfin
            go_wp2_with (at_builtin; refine wpList_appR rfl _ _ rfl w.heap.size _ _ vs [.slice A8 m c8] rfl rfl (hownq.ext (Ext.alloc _ _)) (srcOne hown2.oneCell (Box.new _ _ _)) (by rw [HVS.out]; simp; omega) (by simp <;> omega) ?_; intro v' w4 hown4 hg)
            have hE5 := Ext.grow (hEw.trans (Ext.alloc _ _)) (hownq.ext (Ext.alloc _ _)) (Nat.le_refl _) hg
            have hel4 := helq.grow (hownq.ext (Ext.alloc _ _)) hg
            have BW4 : Box w4 w.heap.size 24 #[.int .i64 bx, .int .i64 by_] := Box.growR (BQ.alloc _) (hownq.ext (Ext.alloc _ _)) (by decide) hg
            go_roundw
            case rel => exact ⟨k + 1, _, by omega, .inl hv, by go_num, hE5, BW4, hown4, by rw [HSN.out]; exact hel4⟩
            case measure => simp [intOf]; omega
    · have hfin := HEND.out (.inl (by omega))
      clear hel
      go_wp2
      go_ret
      exact ⟨_, vs, rfl, hEr, hown, hfin⟩
end Go.Proofs.Ythfeamlioiaebaa
