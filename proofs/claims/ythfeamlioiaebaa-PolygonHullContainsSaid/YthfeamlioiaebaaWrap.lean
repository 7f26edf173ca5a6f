/- The reference's step around a hull. -/
import Derived.Test.YthfeamlioiaebaaFar
set_option linter.unusedVariables false
set_option linter.unusedSimpArgs false
namespace Go.Proofs.Ythfeamlioiaebaa
open Go.RowKit Go.Par

theorem foldl_take {α : Type} (f : α → P2 → α) (a : α) {l : List P2} {k : Nat} {p : P2} (h : l[k]? = some p) : (l.take (k + 1)).foldl f a = f ((l.take k).foldl f a) p := by
  rw [take_snoc h, List.foldl_append]; rfl
set_option maxRecDepth 100000 in
set_option maxHeartbeats 800000 in
theorem wrap_any (l : List P2) (A : Option Addr) (c n : Nat) (a1 a2 : Int) (w : World) (hn : n = l.length) (hc : n ≤ 1000000) (hP : PtsAt w A l) (hv : ∀ p ∈ l, validS p = true) (ha : validS (a1, a2) = true) :
    Calls Try.prog 84 #[.slice A n c, .agg #[.int .i64 a1, .int .i64 a2]] w fun e w' => e = .returned (.agg #[.int .i64 (wrapS l (a1, a2)).1, .int .i64 (wrapS l (a1, a2)).2]) ∧ Ext w w' := by
  have HN := Lib.hid hn
  have HV := Lib.hid (fun k p (h : l[k]? = some p) => hv p (List.mem_of_getElem? h))
  have HA := Lib.hid ha
  clear hn hv ha
  go_enter Try.func84, Try.ntmps84
  go_wp2_with fail
  have hB3 : Box (((w.alloc (.cells #[.int .i64 a1, .int .i64 a2] 24)).alloc (.cells #[.int .i64 0, .int .i64 0] 24)).alloc (.cells #[.int .i64 a1, .int .i64 a2] 24)) w.heap.size 24 #[.int .i64 a1, .int .i64 a2] := ((Box.new w _ _).alloc _).alloc _
  go_loopw [6, 7, 8] (fun i _ _ wr => ∃ (k : Nat) (c1 c2 : Int), k ≤ n ∧ i = .int .i64 k ∧ Ext w wr ∧ Box wr w.heap.size 24 #[.int .i64 a1, .int .i64 a2] ∧ Box wr (w.heap.size + 1) 24 #[.int .i64 0, .int .i64 0] ∧ Box wr (w.heap.size + 1 + 1) 24 #[.int .i64 c1, .int .i64 c2] ∧ Hid ((l.take k).foldl (stepW (a1, a2)) (a1, a2) = (c1, c2) ∧ validS (c1, c2) = true)) (fun i _ _ _ => n - (intOf i).toNat)
  case atStart => exact ⟨0, a1, a2, Nat.zero_le _, rfl, ((Ext.alloc _ _).trans (Ext.alloc _ _)).trans (Ext.alloc _ _), hB3, (Box.at1).alloc _, Box.at2, ⟨rfl, HA.out⟩⟩
  case round =>
    clear hB3
    obtain ⟨k, c1, c2, hk, rfl, hE, hB3, hB4, hB5, HC⟩ := hrel
    by_cases hlt : k < n
    · obtain ⟨⟨p1, p2⟩, hlk⟩ : ∃ q, l[k]? = some q := ⟨_, List.getElem?_eq_getElem (by rw [← HN.out]; exact hlt)⟩
      have HVP := Lib.hid (HV.out k _ hlk)
      have hst := foldl_take (stepW (a1, a2)) (a1, a2) hlk
      rw [HC.out.1] at hst
      have HST := Lib.hid hst
      obtain ⟨b, o, rfl, hcell⟩ := hP (fun e => by rw [e] at hlk; simp at hlk)
      have x0 := hE.cell (hcell k _ hlk).1
      have x1 := hE.cell (hcell k _ hlk).2
      have hlt3 := hB3.lt
      have hlt5 := hB5.lt
      have f3 := hB3.cell
      have f5 := hB5.cell
      clear hlk hst hcell
      generalize hb3 : w.heap.size = b3 at *
      have ne1 : ¬ b3 = wr.heap.size := by omega
      have ne2 : ¬ b3 + 1 + 1 = wr.heap.size := by omega
      go_wp2_with fail
      refine (rOrient_any _ _ _ _ _ _ _).mono ?_
      rintro e w1 ⟨rfl, hE1⟩
      have hE2 := (Ext.alloc wr (.cells #[.int .i64 p1, .int .i64 p2] 24)).trans hE1
      have hBp := (Box.new wr 24 #[.int .i64 p1, .int .i64 p2]).ext hE1
      replace hB3 := hB3.ext hE2
      replace hB4 := hB4.ext hE2
      replace hB5 := hB5.ext hE2
      replace hE := hE.trans hE2
      have HO := Lib.hid (show stepW (a1, a2) (c1, c2) (p1, p2) = if (c1, c2) = (a1, a2) ∨ orientS (a1, a2) (c1, c2) (p1, p2) < 0 ∨ (orientS (a1, a2) (c1, c2) (p1, p2) = 0 ∧ farS (a1, a2) (c1, c2) < farS (a1, a2) (p1, p2)) then (p1, p2) else (c1, c2) from rfl)
      have HF1 := Lib.hid (fun W => far_any a1 a2 p1 p2 W HA.out HVP.out)
      have HF2 := Lib.hid (fun W => far_any a1 a2 c1 c2 W HA.out HC.out.2)
      clear hE1 hE2 x0 x1 f3 f5
      generalize wr.heap.size = bp at *
      generalize orientS (a1, a2) (c1, c2) (p1, p2) = s at *
      generalize farS (a1, a2) (p1, p2) = fp at *
      generalize farS (a1, a2) (c1, c2) = fc at *
      go_wp2_with fail
      apply wp_region_par' 20 (by kernel_rfl) (by kernel_rfl) rfl
      simp only [List.take_succ_cons, List.take_zero, List.drop_succ_cons, List.drop_zero]
      generalize hW : World.drew _ = W
      have hEW : Ext w1 W := by rw [← hW]; exact Ext.drew _
      clear hW
      have g3 := (hB3.ext hEW).lcell
      have g5 := (hB5.ext hEW).lcell
      have gp := (hBp.ext hEW).lcell
      by_cases hca : c1 = a1 ∧ c2 = a2
      · have HT := Lib.hid (show stepW (a1, a2) (c1, c2) (p1, p2) = (p1, p2) from by rw [HO.out, if_pos (.inl (by rw [hca.1, hca.2]))])
        obtain ⟨rfl, rfl⟩ := hca
        clear HO
        iterate 20
          refine parW_step rfl (fun K hK => ?_)
          apply Exists.intro
          refine ⟨fun z => ?_, ?_⟩
          focus
            go_simp
            first
              | rfl
              | with_reducible exact calls_val (HF1.out _)
              | with_reducible exact calls_val (HF2.out _)
          go_simp
          refine hK _ ?_
          clear hK K
        refine parW_end (fun z => ?_)
        have hEz := hEW.later z
        have hE3 := hE.trans hEz
        have k3 := hB3.ext hEz
        have k4 := hB4.ext hEz
        have k5 := hB5.ext hEz
        have kp := hBp.ext hEz
        have f5 := k5.cell
        have fp' := kp.cell
        have r5 := k5.frozen
        clear g3 g5 gp
        go_wp2
        go_roundw
        case rel => exact ⟨k + 1, p1, p2, by omega, by go_num, (hE3.setNew (by omega) _ _).setNew (by omega) _ _, (k3.far (by simp <;> omega) _).far (by simp <;> omega) _, (k4.far (by simp <;> omega) _).far (by simp <;> omega) _, (k5.set 0 _).set 1 _, ⟨by rw [HST.out, HT.out], HVP.out⟩⟩
        case measure => simp [intOf]; omega
      · have hne : ¬ (c1, c2) = (a1, a2) := fun e => hca (by injection e with e1 e2; exact ⟨e1, e2⟩)
        have d0 : (decide (c1 = a1) && decide (c2 = a2)) = false := by
          rw [Bool.and_eq_false_iff]
          by_cases h1 : c1 = a1
          · exact .inr (decide_eq_false fun h2 => hca ⟨h1, h2⟩)
          · exact .inl (decide_eq_false h1)
        have HNE := Lib.hid hne
        clear hne hca
        by_cases hs : s < 0
        · have HT := Lib.hid (show stepW (a1, a2) (c1, c2) (p1, p2) = (p1, p2) from by rw [HO.out, if_pos (.inr (.inl hs))])
          clear HO
          iterate 20
            refine parW_step rfl (fun K hK => ?_)
            apply Exists.intro
            refine ⟨fun z => ?_, ?_⟩
            focus
              go_simp
              first
                | rfl
                | with_reducible exact calls_val (HF1.out _)
                | with_reducible exact calls_val (HF2.out _)
            go_simp
            refine hK _ ?_
            clear hK K
          refine parW_end (fun z => ?_)
          have hEz := hEW.later z
          have hE3 := hE.trans hEz
          have k3 := hB3.ext hEz
          have k4 := hB4.ext hEz
          have k5 := hB5.ext hEz
          have kp := hBp.ext hEz
          have f5 := k5.cell
          have fp' := kp.cell
          have r5 := k5.frozen
          clear g3 g5 gp
          go_wp2
          go_roundw
          case rel => exact ⟨k + 1, p1, p2, by omega, by go_num, (hE3.setNew (by omega) _ _).setNew (by omega) _ _, (k3.far (by simp <;> omega) _).far (by simp <;> omega) _, (k4.far (by simp <;> omega) _).far (by simp <;> omega) _, (k5.set 0 _).set 1 _, ⟨by rw [HST.out, HT.out], HVP.out⟩⟩
          case measure => simp [intOf]; omega
        · by_cases hs0 : s = 0
          · subst hs0
            by_cases hf : fc < fp
            · have HT := Lib.hid (show stepW (a1, a2) (c1, c2) (p1, p2) = (p1, p2) from by rw [HO.out, if_pos (.inr (.inr ⟨rfl, hf⟩))])
              clear HO
              iterate 20
                refine parW_step rfl (fun K hK => ?_)
                apply Exists.intro
                refine ⟨fun z => ?_, ?_⟩
                focus
                  go_simp
                  first
                    | rfl
                    | with_reducible exact calls_val (HF1.out _)
                    | with_reducible exact calls_val (HF2.out _)
                go_simp
                refine hK _ ?_
                clear hK K
              refine parW_end (fun z => ?_)
              have hEz := hEW.later z
              have hE3 := hE.trans hEz
              have k3 := hB3.ext hEz
              have k4 := hB4.ext hEz
              have k5 := hB5.ext hEz
              have kp := hBp.ext hEz
              have f5 := k5.cell
              have fp' := kp.cell
              have r5 := k5.frozen
              clear g3 g5 gp
              go_wp2
              go_roundw
              case rel => exact ⟨k + 1, p1, p2, by omega, by go_num, (hE3.setNew (by omega) _ _).setNew (by omega) _ _, (k3.far (by simp <;> omega) _).far (by simp <;> omega) _, (k4.far (by simp <;> omega) _).far (by simp <;> omega) _, (k5.set 0 _).set 1 _, ⟨by rw [HST.out, HT.out], HVP.out⟩⟩
              case measure => simp [intOf]; omega
            · have HT := Lib.hid (show stepW (a1, a2) (c1, c2) (p1, p2) = (c1, c2) from by rw [HO.out, if_neg (fun h => h.elim HNE.out (fun h => h.elim hs (fun h => hf h.2)))])
              clear HO
              iterate 20
                refine parW_step rfl (fun K hK => ?_)
                apply Exists.intro
                refine ⟨fun z => ?_, ?_⟩
                focus
                  go_simp
                  first
                    | rfl
                    | with_reducible exact calls_val (HF1.out _)
                    | with_reducible exact calls_val (HF2.out _)
                go_simp
                refine hK _ ?_
                clear hK K
              refine parW_end (fun z => ?_)
              have hEz := hEW.later z
              have hE3 := hE.trans hEz
              have k3 := hB3.ext hEz
              have k4 := hB4.ext hEz
              have k5 := hB5.ext hEz
              clear g3 g5 gp
              go_wp2
              go_roundw
              case rel => exact ⟨k + 1, c1, c2, by omega, by go_num, hE3, k3, k4, k5, ⟨by rw [HST.out, HT.out], HC.out.2⟩⟩
              case measure => simp [intOf]; omega
          · have HT := Lib.hid (show stepW (a1, a2) (c1, c2) (p1, p2) = (c1, c2) from by rw [HO.out, if_neg (fun h => h.elim HNE.out (fun h => h.elim hs (fun h => hs0 h.1)))])
            clear HO
            iterate 20
              refine parW_step rfl (fun K hK => ?_)
              apply Exists.intro
              refine ⟨fun z => ?_, ?_⟩
              focus
                go_simp
                first
                  | rfl
                  | with_reducible exact calls_val (HF1.out _)
                  | with_reducible exact calls_val (HF2.out _)
              go_simp
              refine hK _ ?_
              clear hK K
            refine parW_end (fun z => ?_)
            have hEz := hEW.later z
            have hE3 := hE.trans hEz
            have k3 := hB3.ext hEz
            have k4 := hB4.ext hEz
            have k5 := hB5.ext hEz
            clear g3 g5 gp
            go_wp2
            go_roundw
            case rel => exact ⟨k + 1, c1, c2, by omega, by go_num, hE3, k3, k4, k5, ⟨by rw [HST.out, HT.out], HC.out.2⟩⟩
            case measure => simp [intOf]; omega
    · have hfin : l.take k = l := List.take_of_length_le (by rw [← HN.out]; omega)
      have h0 := HC.out.1
      rw [hfin] at h0
      have HW := Lib.hid (show wrapS l (a1, a2) = (c1, c2) from h0)
      have f5 := hB5.cell
      have f4 := hB4.cell
      have r4 := hB4.frozen
      clear hfin h0
      generalize hb3 : w.heap.size = b3 at *
      go_wp2
      exact bodyPost_ret (v := .agg #[.int .i64 c1, .int .i64 c2]) (by simp [results, Try.results84, go_sem, f4, f5]) rfl ⟨by rw [HW.out], (hE.setNew (by omega) _ _).setNew (by omega) _ _⟩
end Go.Proofs.Ythfeamlioiaebaa
