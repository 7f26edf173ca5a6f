/- The reference's hilbert. Printed by wip/tools/genhil2.py. -/
import Derived.Test.YtefdheoalonbaaaHil
set_option linter.unusedVariables false
set_option linter.unusedSimpArgs false
namespace Go.Proofs.Ytefdheoalonbaaa
open Go.RowKit Go.Par

set_option maxRecDepth 100000 in
set_option maxHeartbeats 1600000 in
theorem rhilbert_any (K : Nat) (w : World) (hK : K ≤ 8) :
    Calls Try.prog 64 #[.int .i64 (K : Int)] w fun e w' => ∃ v, e = .returned v ∧ Ext w w' ∧ pairE.Own w' w.heap.size v (hilF K) := by
  go_enter Try.func64, Try.ntmps64
  go_wp2_with fail
  go_loopw [3, 4, 5, 6, 7, 8, 9, 10] (fun s nv kv _ _ _ _ _ wr => ∃ (k n : Nat), k ≤ K ∧ nv = .int .i64 n ∧ kv = .int .i64 k ∧ Hid (n = 2 ^ k) ∧ Ext w wr ∧ pairE.Own wr w.heap.size s (hilF k)) (fun _ _ kv _ _ _ _ _ _ => K - (intOf kv).toNat)
  case atStart => exact ⟨0, 1, Nat.zero_le _, rfl, rfl, Lib.hid rfl, Ext.alloc _ _, EL.Own.mk rfl (Nat.le_refl _) (Box.new _ _ _) (Nat.le_refl _) (by decide) rfl (fun j v hv => by simpa [hilF, EL.cells, pairE] using hv)⟩
  case round =>
    obtain ⟨k, n, hk, rfl, rfl, HNK, hEw, hownl⟩ := hrel
    by_cases hltk : k < K
    · obtain ⟨p1, p2⟩ := pow_le7 (show k ≤ 7 by omega)
      have hn1 : 1 ≤ n := by rw [HNK.out]; exact Nat.one_le_two_pow
      have hn2 : n ≤ 128 := by rw [HNK.out]; exact p2
      have dn : ((k : Int) < (K : Int)) = True := eq_true (by omega)
      have HSC := Lib.hid (hilF_succ k n HNK.out)
      have hbd := hilF_bd k
      have hln := hilF_length k
      rw [show (2 : Int) ^ k = (n : Int) from by rw [HNK.out]; push_cast; rfl] at hbd
      generalize hilF k = l at *
      have HBD := Lib.hid hbd
      obtain ⟨m, hm⟩ : ∃ m, m = l.length := ⟨_, rfl⟩
      have HM := Lib.hid hm
      rw [← hm] at hln
      have hm2 : m ≤ 16384 := by rw [hln]; exact p1
      have hm1 : 1 ≤ m := by rw [hln]; exact Nat.one_le_pow _ _ (by decide)
      clear hbd hm hln p1 p2
      obtain ⟨A, c, rfl, hlc, hat⟩ := hownl.at HM.out.symm (by omega)
      obtain ⟨b, o, rfl, hcell⟩ := hat (fun e => by have := HM.out; rw [e] at this; simp at this; omega)
      have HCELL := Lib.hid hcell
      clear hcell hat hownl
      go_wp2_with fail
      generalize hwo : wr = wo at *
      go_loopw [6, 7] (fun s i wr => ∃ j : Nat, j ≤ m ∧ i = .int .i64 j ∧ Ext wo wr ∧ pairE.Own wr wo.heap.size s (([]) ++ (l.take j).map (fun q : C2 => (q.2, q.1)))) (fun _ i _ => m - (intOf i).toNat)
      case atStart => exact ⟨0, Nat.zero_le _, rfl, Ext.refl _, EL.Own.nil _ _⟩
      case round =>
        obtain ⟨j, hj, rfl, hE, hown⟩ := hrel
        by_cases hlt : j < m
        · obtain ⟨⟨x, y⟩, hlx⟩ : ∃ q, l[j]? = some q := ⟨_, List.getElem?_eq_getElem (by rw [← HM.out]; exact hlt)⟩
          obtain ⟨r1, r2, r3, r4⟩ := HBD.out _ (List.mem_of_getElem? hlx)
          obtain ⟨e0, e1⟩ := pair_cells HCELL.out hlx
          replace e0 := hE.cell e0
          replace e1 := hE.cell e1
          simp only at e0 e1 r1 r2 r3 r4
          have hlen : (([]) ++ (l.take j).map (fun q : C2 => (q.2, q.1))).length + 1 ≤ 1000000000 := by
            simp only [List.length_append, List.length_map, List.length_take, List.length_nil, ← HM.out]; omega
          have HS := Lib.hid (show (l.take (j + 1)).map (fun q : C2 => (q.2, q.1)) = (l.take j).map (fun q : C2 => (q.2, q.1)) ++ [(y, x)] from by rw [take_snocG hlx, List.map_append]; rfl)
          have hsz := hE.size
        
          clear hlx
          go_wp2_with fail
          apply wp_region_par' 13 (by kernel_rfl) (by kernel_rfl) rfl
          simp only [List.take_succ_cons, List.take_zero, List.drop_succ_cons, List.drop_zero]
          generalize hW : World.drew _ = W
          have hEW1 : Ext wr W := by rw [← hW]; exact Ext.drew _
          clear hW
          replace e0 := fun z : Later W => z.cell (hEW1.cell e0)
          replace e1 := fun z : Later W => z.cell (hEW1.cell e1)
          iterate 12
            refine parW_step rfl (fun K hK => ?_)
            apply Exists.intro
            refine ⟨fun z => ?_, ?_⟩
            focus
              go_simp
              first
                | rfl
                | fail
            go_simp
            refine hK _ ?_
            clear hK K
          refine parW_newRow (t := 25) (n := 1) (cs := #[.int .i64 (y), .int .i64 (x)]) rfl rfl rfl (by simp) (fun w1 => by kernel_rfl) ?_
          refine parW_fin (fun z => ?_)
          rintro v1 ⟨b0, rfl, hb0, hbx⟩ hp
          clear hp
          have hWZ := z.prop
          generalize z.val = Z at *
          clear z e0 e1
          have hEZ := hEW1.trans hWZ
          have hownZ := hown.ext hEZ
          have hszZ := hEZ.size
          simp only [Act.put, List.setIfInBounds_toArray, List.set_cons_succ, List.set_cons_zero]
          go_wp2_with (at_builtin; refine EL.wpApp pairE rfl _ _ rfl wo.heap.size _ _ _ _ rfl rfl hownZ (pairE_one hbx) hlen (by omega) ?_; intro v' w' hown' hg _)
          have hE3 := growExt (hE.trans hEZ) hownZ (Nat.le_refl _) hg
          go_roundw
          case rel => exact ⟨j + 1, by omega, by go_num, hE3, by rw [HS.out, ← List.append_assoc]; exact hown'⟩
          case measure => simp [intOf]; omega
        · have d1 : ((j : Int) < (m : Int)) = False := eq_false (by omega)
          have hfin : l.take j = l := List.take_of_length_le (by rw [← HM.out]; omega)
          rw [hfin] at hown
          clear hfin
          go_wp2_with fail
          go_loopw [6, 8] (fun s i wr => ∃ j : Nat, j ≤ m ∧ i = .int .i64 j ∧ Ext wo wr ∧ pairE.Own wr wo.heap.size s ((l.map (fun q : C2 => (q.2, q.1))) ++ (l.take j).map (fun q : C2 => (q.1, q.2 + (n : Int))))) (fun _ i _ => m - (intOf i).toNat)
          case atStart => exact ⟨0, Nat.zero_le _, rfl, hE, by rw [List.take_zero, List.map_nil, List.append_nil]; exact hown⟩
          case round =>
            clear hE hown
            obtain ⟨j, hj, rfl, hE, hown⟩ := hrel
            by_cases hlt : j < m
            · obtain ⟨⟨x, y⟩, hlx⟩ : ∃ q, l[j]? = some q := ⟨_, List.getElem?_eq_getElem (by rw [← HM.out]; exact hlt)⟩
              obtain ⟨r1, r2, r3, r4⟩ := HBD.out _ (List.mem_of_getElem? hlx)
              obtain ⟨e0, e1⟩ := pair_cells HCELL.out hlx
              replace e0 := hE.cell e0
              replace e1 := hE.cell e1
              simp only at e0 e1 r1 r2 r3 r4
              have hlen : ((l.map (fun q : C2 => (q.2, q.1))) ++ (l.take j).map (fun q : C2 => (q.1, q.2 + (n : Int)))).length + 1 ≤ 1000000000 := by
                simp only [List.length_append, List.length_map, List.length_take, List.length_nil, ← HM.out]; omega
              have HS := Lib.hid (show (l.take (j + 1)).map (fun q : C2 => (q.1, q.2 + (n : Int))) = (l.take j).map (fun q : C2 => (q.1, q.2 + (n : Int))) ++ [(x, y + (n : Int))] from by rw [take_snocG hlx, List.map_append]; rfl)
              have hsz := hE.size
              have q1 : IntKind.i64.wrap (y + (n : Int)) = y + (n : Int) := IntWalk.i64_in _ (by omega)
              clear hlx
              go_wp2_with fail
              apply wp_region_par' 15 (by kernel_rfl) (by kernel_rfl) rfl
              simp only [List.take_succ_cons, List.take_zero, List.drop_succ_cons, List.drop_zero]
              generalize hW : World.drew _ = W
              have hEW1 : Ext wr W := by rw [← hW]; exact Ext.drew _
              clear hW
              replace e0 := fun z : Later W => z.cell (hEW1.cell e0)
              replace e1 := fun z : Later W => z.cell (hEW1.cell e1)
              iterate 14
                refine parW_step rfl (fun K hK => ?_)
                apply Exists.intro
                refine ⟨fun z => ?_, ?_⟩
                focus
                  go_simp
                  first
                    | rfl
                    | fail
                go_simp
                refine hK _ ?_
                clear hK K
              refine parW_newRow (t := 25) (n := 1) (cs := #[.int .i64 (x), .int .i64 (y + (n : Int))]) rfl rfl rfl (by simp) (fun w1 => by kernel_rfl) ?_
              refine parW_fin (fun z => ?_)
              rintro v1 ⟨b0, rfl, hb0, hbx⟩ hp
              clear hp
              have hWZ := z.prop
              generalize z.val = Z at *
              clear z e0 e1
              have hEZ := hEW1.trans hWZ
              have hownZ := hown.ext hEZ
              have hszZ := hEZ.size
              simp only [Act.put, List.setIfInBounds_toArray, List.set_cons_succ, List.set_cons_zero]
              go_wp2_with (at_builtin; refine EL.wpApp pairE rfl _ _ rfl wo.heap.size _ _ _ _ rfl rfl hownZ (pairE_one hbx) hlen (by omega) ?_; intro v' w' hown' hg _)
              have hE3 := growExt (hE.trans hEZ) hownZ (Nat.le_refl _) hg
              go_roundw
              case rel => exact ⟨j + 1, by omega, by go_num, hE3, by rw [HS.out, ← List.append_assoc]; exact hown'⟩
              case measure => simp [intOf]; omega
            · have d1 : ((j : Int) < (m : Int)) = False := eq_false (by omega)
              have hfin : l.take j = l := List.take_of_length_le (by rw [← HM.out]; omega)
              rw [hfin] at hown
              clear hfin
              go_wp2_with fail
              go_loopw [6, 9] (fun s i wr => ∃ j : Nat, j ≤ m ∧ i = .int .i64 j ∧ Ext wo wr ∧ pairE.Own wr wo.heap.size s ((l.map (fun q : C2 => (q.2, q.1)) ++ l.map (fun q : C2 => (q.1, q.2 + (n : Int)))) ++ (l.take j).map (fun q : C2 => (q.1 + (n : Int), q.2 + (n : Int))))) (fun _ i _ => m - (intOf i).toNat)
              case atStart => exact ⟨0, Nat.zero_le _, rfl, hE, by rw [List.take_zero, List.map_nil, List.append_nil]; exact hown⟩
              case round =>
                clear hE hown
                obtain ⟨j, hj, rfl, hE, hown⟩ := hrel
                by_cases hlt : j < m
                · obtain ⟨⟨x, y⟩, hlx⟩ : ∃ q, l[j]? = some q := ⟨_, List.getElem?_eq_getElem (by rw [← HM.out]; exact hlt)⟩
                  obtain ⟨r1, r2, r3, r4⟩ := HBD.out _ (List.mem_of_getElem? hlx)
                  obtain ⟨e0, e1⟩ := pair_cells HCELL.out hlx
                  replace e0 := hE.cell e0
                  replace e1 := hE.cell e1
                  simp only at e0 e1 r1 r2 r3 r4
                  have hlen : ((l.map (fun q : C2 => (q.2, q.1)) ++ l.map (fun q : C2 => (q.1, q.2 + (n : Int)))) ++ (l.take j).map (fun q : C2 => (q.1 + (n : Int), q.2 + (n : Int)))).length + 1 ≤ 1000000000 := by
                    simp only [List.length_append, List.length_map, List.length_take, List.length_nil, ← HM.out]; omega
                  have HS := Lib.hid (show (l.take (j + 1)).map (fun q : C2 => (q.1 + (n : Int), q.2 + (n : Int))) = (l.take j).map (fun q : C2 => (q.1 + (n : Int), q.2 + (n : Int))) ++ [(x + (n : Int), y + (n : Int))] from by rw [take_snocG hlx, List.map_append]; rfl)
                  have hsz := hE.size
                  have q1 : IntKind.i64.wrap (y + (n : Int)) = y + (n : Int) := IntWalk.i64_in _ (by omega)
                  have q2 : IntKind.i64.wrap (x + (n : Int)) = x + (n : Int) := IntWalk.i64_in _ (by omega)
                  clear hlx
                  go_wp2_with fail
                  apply wp_region_par' 17 (by kernel_rfl) (by kernel_rfl) rfl
                  simp only [List.take_succ_cons, List.take_zero, List.drop_succ_cons, List.drop_zero]
                  generalize hW : World.drew _ = W
                  have hEW1 : Ext wr W := by rw [← hW]; exact Ext.drew _
                  clear hW
                  replace e0 := fun z : Later W => z.cell (hEW1.cell e0)
                  replace e1 := fun z : Later W => z.cell (hEW1.cell e1)
                  iterate 16
                    refine parW_step rfl (fun K hK => ?_)
                    apply Exists.intro
                    refine ⟨fun z => ?_, ?_⟩
                    focus
                      go_simp
                      first
                        | rfl
                        | fail
                    go_simp
                    refine hK _ ?_
                    clear hK K
                  refine parW_newRow (t := 25) (n := 1) (cs := #[.int .i64 (x + (n : Int)), .int .i64 (y + (n : Int))]) rfl rfl rfl (by simp) (fun w1 => by kernel_rfl) ?_
                  refine parW_fin (fun z => ?_)
                  rintro v1 ⟨b0, rfl, hb0, hbx⟩ hp
                  clear hp
                  have hWZ := z.prop
                  generalize z.val = Z at *
                  clear z e0 e1
                  have hEZ := hEW1.trans hWZ
                  have hownZ := hown.ext hEZ
                  have hszZ := hEZ.size
                  simp only [Act.put, List.setIfInBounds_toArray, List.set_cons_succ, List.set_cons_zero]
                  go_wp2_with (at_builtin; refine EL.wpApp pairE rfl _ _ rfl wo.heap.size _ _ _ _ rfl rfl hownZ (pairE_one hbx) hlen (by omega) ?_; intro v' w' hown' hg _)
                  have hE3 := growExt (hE.trans hEZ) hownZ (Nat.le_refl _) hg
                  go_roundw
                  case rel => exact ⟨j + 1, by omega, by go_num, hE3, by rw [HS.out, ← List.append_assoc]; exact hown'⟩
                  case measure => simp [intOf]; omega
                · have d1 : ((j : Int) < (m : Int)) = False := eq_false (by omega)
                  have hfin : l.take j = l := List.take_of_length_le (by rw [← HM.out]; omega)
                  rw [hfin] at hown
                  clear hfin
                  go_wp2_with fail
                  go_loopw [6, 10] (fun s i wr => ∃ j : Nat, j ≤ m ∧ i = .int .i64 j ∧ Ext wo wr ∧ pairE.Own wr wo.heap.size s ((l.map (fun q : C2 => (q.2, q.1)) ++ l.map (fun q : C2 => (q.1, q.2 + (n : Int))) ++ l.map (fun q : C2 => (q.1 + (n : Int), q.2 + (n : Int)))) ++ (l.take j).map (fun q : C2 => (2 * (n : Int) - 1 - q.2, (n : Int) - 1 - q.1)))) (fun _ i _ => m - (intOf i).toNat)
                  case atStart => exact ⟨0, Nat.zero_le _, rfl, hE, by rw [List.take_zero, List.map_nil, List.append_nil]; exact hown⟩
                  case round =>
                    clear hE hown
                    obtain ⟨j, hj, rfl, hE, hown⟩ := hrel
                    by_cases hlt : j < m
                    · obtain ⟨⟨x, y⟩, hlx⟩ : ∃ q, l[j]? = some q := ⟨_, List.getElem?_eq_getElem (by rw [← HM.out]; exact hlt)⟩
                      obtain ⟨r1, r2, r3, r4⟩ := HBD.out _ (List.mem_of_getElem? hlx)
                      obtain ⟨e0, e1⟩ := pair_cells HCELL.out hlx
                      replace e0 := hE.cell e0
                      replace e1 := hE.cell e1
                      simp only at e0 e1 r1 r2 r3 r4
                      have hlen : ((l.map (fun q : C2 => (q.2, q.1)) ++ l.map (fun q : C2 => (q.1, q.2 + (n : Int))) ++ l.map (fun q : C2 => (q.1 + (n : Int), q.2 + (n : Int)))) ++ (l.take j).map (fun q : C2 => (2 * (n : Int) - 1 - q.2, (n : Int) - 1 - q.1))).length + 1 ≤ 1000000000 := by
                        simp only [List.length_append, List.length_map, List.length_take, List.length_nil, ← HM.out]; omega
                      have HS := Lib.hid (show (l.take (j + 1)).map (fun q : C2 => (2 * (n : Int) - 1 - q.2, (n : Int) - 1 - q.1)) = (l.take j).map (fun q : C2 => (2 * (n : Int) - 1 - q.2, (n : Int) - 1 - q.1)) ++ [(2 * (n : Int) - 1 - y, (n : Int) - 1 - x)] from by rw [take_snocG hlx, List.map_append]; rfl)
                      have hsz := hE.size
                      have q1 : IntKind.i64.wrap (2 * (n : Int)) = 2 * (n : Int) := IntWalk.i64_in _ (by omega)
                      have q2 : IntKind.i64.wrap (2 * (n : Int) - 1) = 2 * (n : Int) - 1 := IntWalk.i64_in _ (by omega)
                      have q3 : IntKind.i64.wrap (2 * (n : Int) - 1 - y) = 2 * (n : Int) - 1 - y := IntWalk.i64_in _ (by omega)
                      have q4 : IntKind.i64.wrap ((n : Int) - 1) = (n : Int) - 1 := IntWalk.i64_in _ (by omega)
                      have q5 : IntKind.i64.wrap ((n : Int) - 1 - x) = (n : Int) - 1 - x := IntWalk.i64_in _ (by omega)
                      clear hlx
                      go_wp2_with fail
                      apply wp_region_par' 20 (by kernel_rfl) (by kernel_rfl) rfl
                      simp only [List.take_succ_cons, List.take_zero, List.drop_succ_cons, List.drop_zero]
                      generalize hW : World.drew _ = W
                      have hEW1 : Ext wr W := by rw [← hW]; exact Ext.drew _
                      clear hW
                      replace e0 := fun z : Later W => z.cell (hEW1.cell e0)
                      replace e1 := fun z : Later W => z.cell (hEW1.cell e1)
                      iterate 19
                        refine parW_step rfl (fun K hK => ?_)
                        apply Exists.intro
                        refine ⟨fun z => ?_, ?_⟩
                        focus
                          go_simp
                          first
                            | rfl
                            | fail
                        go_simp
                        refine hK _ ?_
                        clear hK K
                      refine parW_newRow (t := 25) (n := 1) (cs := #[.int .i64 (2 * (n : Int) - 1 - y), .int .i64 ((n : Int) - 1 - x)]) rfl rfl rfl (by simp) (fun w1 => by kernel_rfl) ?_
                      refine parW_fin (fun z => ?_)
                      rintro v1 ⟨b0, rfl, hb0, hbx⟩ hp
                      clear hp
                      have hWZ := z.prop
                      generalize z.val = Z at *
                      clear z e0 e1
                      have hEZ := hEW1.trans hWZ
                      have hownZ := hown.ext hEZ
                      have hszZ := hEZ.size
                      simp only [Act.put, List.setIfInBounds_toArray, List.set_cons_succ, List.set_cons_zero]
                      go_wp2_with (at_builtin; refine EL.wpApp pairE rfl _ _ rfl wo.heap.size _ _ _ _ rfl rfl hownZ (pairE_one hbx) hlen (by omega) ?_; intro v' w' hown' hg _)
                      have hE3 := growExt (hE.trans hEZ) hownZ (Nat.le_refl _) hg
                      go_roundw
                      case rel => exact ⟨j + 1, by omega, by go_num, hE3, by rw [HS.out, ← List.append_assoc]; exact hown'⟩
                      case measure => simp [intOf]; omega
                    · have d1 : ((j : Int) < (m : Int)) = False := eq_false (by omega)
                      have hfin : l.take j = l := List.take_of_length_le (by rw [← HM.out]; omega)
                      rw [hfin] at hown
                      clear hfin
                      have q1 : IntKind.i64.wrap (2 * (n : Int)) = 2 * (n : Int) := IntWalk.i64_in _ (by omega)
                      have q2 : IntKind.i64.wrap ((k : Int) + 1) = (k : Int) + 1 := IntWalk.i64_in _ (by omega)
                      rw [← HSC.out] at hown
                      go_wp2_with fail
                      go_roundw
                      case rel => exact ⟨k + 1, 2 * n, by omega, by go_num, by go_num, Lib.hid (by rw [HNK.out, Nat.pow_succ]; omega), hEw.trans hE, hown.lower hEw.size⟩
                      case measure => simp [intOf]; omega
    · have hkK : k = K := by omega
      have dn : ((k : Int) < (K : Int)) = False := eq_false (by omega)
      go_wp2
      go_ret
      exact ⟨_, rfl, hEw, by rw [← hkK]; exact hownl⟩
end Go.Proofs.Ytefdheoalonbaaa
