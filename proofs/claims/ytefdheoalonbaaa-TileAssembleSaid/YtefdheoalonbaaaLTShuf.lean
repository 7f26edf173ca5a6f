/- TileShuffle: the walk. -/
import Derived.Test.YtefdheoalonbaaaOrds
import Derived.BigRegion
set_option linter.unusedVariables false
set_option linter.unusedSimpArgs false
namespace Go.Proofs.Ytefdheoalonbaaa
open Go.RowKit Go.Par

/-- swapping keeps a list without repeats, in its bounds -/
theorem set_set_perm {l : List Int} {i k : Nat} (hi : i < l.length) (hk : k < l.length) : (swapL l i k).Perm l := by
  unfold swapL
  rw [List.getD_eq_getElem?_getD, List.getD_eq_getElem?_getD, List.getElem?_eq_getElem hi, List.getElem?_eq_getElem hk]
  exact List.set_set_perm hi hk
theorem shufF_perm : ∀ (j : Nat) (x : Int) (l : List Int), j < l.length → (shufF j x l).Perm l
  | 0, _, _, _ => List.Perm.refl _
  | j + 1, x, l, h => by
    rw [shufF]
    obtain ⟨b1, b2⟩ := nextX_bd x
    have hk := (pickK_eq b1 b2 (j + 1)).2
    exact (shufF_perm j _ _ (by rw [swapL_length]; omega)).trans (set_set_perm h (by omega))
theorem shufS_perm (n x : Int) : (shufS n x).Perm (iotaL (shufN n)) := by
  unfold shufS
  rcases Nat.eq_zero_or_pos (shufN n) with h | h
  · rw [h]; exact List.Perm.refl _
  · exact shufF_perm _ _ _ (by rw [iotaL_length]; omega)
theorem iotaL_mem {n : Nat} {x : Int} : x ∈ iotaL n ↔ 0 ≤ x ∧ x < n := by
  unfold iotaL
  simp only [List.mem_map, List.mem_range]
  constructor
  · rintro ⟨k, hk, rfl⟩; omega
  · rintro ⟨h1, h2⟩; exact ⟨x.toNat, by omega, by omega⟩
theorem iotaL_nodup (n : Nat) : (iotaL n).Nodup := by
  unfold iotaL
  rw [List.nodup_iff_pairwise_ne, List.pairwise_map]
  exact List.Pairwise.imp (fun {a b} h => by omega) List.nodup_range
set_option maxRecDepth 100000 in
set_option maxHeartbeats 1600000 in
theorem tileShuffle_any (n x : Int) (w : World) (hx : 0 ≤ x) (hx2 : x ≤ 18446744073709551615) :
    Calls Try.prog 8 #[.int .i64 n, .int .u64 x] w fun e w' => e = .returned (.bool true) ∧ Ext w w' := by
  have H1 := Lib.hid (fun W => Shuffle_any n x W hx hx2)
  have H2 := Lib.hid (fun W => rShuffle_any n x W hx hx2)
  have hp := shufS_perm n x
  have hlen := shufS_len n x
  have hle := shufN_le n
  generalize shufS n x = l at *
  generalize shufN n = m at *
  have HP := Lib.hid hp
  have HL := Lib.hid hlen
  clear hp hlen
  go_enter Try.func8, Try.ntmps8
  go_wp2_with fail
  refine (H1.out _).mono ?_
  rintro e w1 ⟨v, rfl, hE, hown⟩
  obtain ⟨A, c, rfl, hc, hat⟩ := hown.at HL.out (by omega)
  clear hown
  go_wp2_with fail
  refine (H2.out _).mono ?_
  rintro e w2 ⟨v, rfl, hE2, hown⟩
  obtain ⟨A2, c2, rfl, hc2, hat2⟩ := hown.at HL.out (by omega)
  replace hE := hE.trans hE2
  replace hat := hat.ext hE2
  clear hown hE2
  go_wp2_with fail
  refine (Ints_any l l A A2 c c2 m m w2 HL.out HL.out (by omega) (by omega) hat hat2).mono ?_
  rintro e w3 ⟨rfl, hE2⟩
  rw [decide_eq_true rfl]
  replace hE := hE.trans hE2
  replace hat := hat.ext hE2
  clear hE2 hat2
  go_wp2_with fail
  obtain ⟨W, hW, cs0, hcs0, hb0⟩ : ∃ W, W = w3.alloc (.cells (Array.replicate 256 (.bool false)) 55) ∧ ∃ cs0 : Array Value, cs0 = Array.replicate 256 (.bool false) ∧ Box W w3.heap.size 55 cs0 := ⟨_, rfl, _, rfl, Box.new _ _ _⟩
  have hEW : Ext w3 W := by rw [hW]; exact Ext.alloc _ _
  change Code.wp _ _ _ _ (w3.alloc (.cells (Array.replicate 256 (.bool false)) 55))
  rw [← hW]
  clear hW
  have HS0 := Lib.hid (show cs0.size = 256 ∧ ∀ k : Nat, k < 256 → cs0[k]? = some (.bool (decide ((k : Int) ∈ l.take 0))) from by
    rw [hcs0]
    refine ⟨by simp, fun k hk => ?_⟩
    rw [Array.getElem?_replicate, if_pos hk]; simp)
  clear hcs0
  generalize hB6 : w3.heap.size = B6 at *
  have hb6 : w3.heap.size ≤ B6 := Nat.le_of_eq hB6
  clear hB6
  have hsz := hb0.lt
  go_loopw [20] (fun i wr => ∃ (j : Nat) (cs : Array Value), j ≤ m ∧ i = .int .i64 j ∧ Ext w3 wr ∧ Box wr B6 55 cs ∧ Hid (cs.size = 256 ∧ ∀ k : Nat, k < 256 → cs[k]? = some (.bool (decide ((k : Int) ∈ l.take j))))) (fun i _ => m - (intOf i).toNat)
  case atStart => exact ⟨0, cs0, Nat.zero_le _, rfl, hEW, hb0, HS0⟩
  case round =>
    obtain ⟨j, cs, hj, rfl, hE3, hb, HS⟩ := hrel
    by_cases hlt : j < m
    · have dj : ((j : Int) < (m : Int)) = True := eq_true (by omega)
      obtain ⟨x, hlx⟩ : ∃ q, l[j]? = some q := ⟨_, List.getElem?_eq_getElem (by rw [HL.out]; exact hlt)⟩
      obtain ⟨bb, o, rfl, hcell⟩ := hat (fun e => by rw [e] at hlx; simp at hlx)
      have e0 := hE3.cell (intE_cell hcell hlx)
      have hmem := iotaL_mem.1 (HP.out.mem_iff.1 (List.mem_of_getElem? hlx))
      have hnd := HP.out.nodup_iff.2 (iotaL_nodup m)
      obtain ⟨k, rfl⟩ : ∃ k : Nat, x = k := ⟨x.toNat, by omega⟩
      have hkm : k < m := by omega
      have hnot : (k : Int) ∉ l.take j := fun hin => by
        obtain ⟨i, hi⟩ := List.mem_iff_getElem?.1 hin
        rw [List.getElem?_take] at hi
        split at hi
        · next hij =>
          have := (List.pairwise_iff_getElem.1 hnd) i j (by rw [HL.out]; omega) (by rw [HL.out]; omega) hij
          obtain ⟨q1, q2⟩ := List.getElem?_eq_some_iff.1 hi
          obtain ⟨q3, q4⟩ := List.getElem?_eq_some_iff.1 hlx
          rw [q2, q4] at this
          exact this rfl
        · cases hi
      have ec : wr.cell? ⟨B6, k, none⟩ = some (.bool false) := by
        rw [hb.cell, HS.out.2 k (by omega), decide_eq_false hnot]
      have fc : wr.frozen? ⟨B6, k, none⟩ = false := hb.frozen k
      have HS' := Lib.hid (show (cs.setIfInBounds k (.bool true)).size = 256 ∧ ∀ i : Nat, i < 256 → (cs.setIfInBounds k (.bool true))[i]? = some (.bool (decide ((i : Int) ∈ l.take (j + 1)))) from by
        refine ⟨by rw [Array.size_setIfInBounds]; exact HS.out.1, fun i hi => ?_⟩
        rw [Array.getElem?_setIfInBounds, take_snocG hlx]
        by_cases hki : k = i
        · subst hki
          rw [if_pos rfl, if_pos (by rw [HS.out.1]; omega)]
          simp
        · rw [if_neg hki, HS.out.2 i hi]
          congr 2
          simp only [List.mem_append, List.mem_singleton, decide_eq_decide]
          constructor
          · exact .inl
          · rintro (h | h)
            · exact h
            · omega)
      have d1 : ((k : Int) < 0) = False := eq_false (by omega)
      have d2 : ((m : Int) ≤ (k : Int)) = False := eq_false (by omega)
      have d3 : k < 256 := by omega
      clear hcell hlx hmem hnd hnot
      go_wp2_with fail
      go_roundw
      case rel => exact ⟨j + 1, _, by omega, by go_num, hE3.setNew (by omega) _ _, hb.set k (.bool true), HS'⟩
      case measure => simp [intOf]; omega
    · have dj : ((j : Int) < (m : Int)) = False := eq_false (by omega)
      go_wp2_with fail
      refine (example_any _).mono ?_
      rintro e w4 ⟨rfl, hE4⟩
      go_wp2
      go_ret
      exact ⟨rfl, (hE.trans hE3).trans hE4⟩
end Go.Proofs.Ytefdheoalonbaaa
