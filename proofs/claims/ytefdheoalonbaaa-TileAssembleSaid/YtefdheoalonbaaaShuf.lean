/- Shuffle in both. -/
import Derived.Test.YtefdheoalonbaaaInts
import Derived.BigRegion
set_option linter.unusedVariables false
set_option linter.unusedSimpArgs false
namespace Go.Proofs.Ytefdheoalonbaaa
open Go.RowKit Go.Par

def iotaL (n : Nat) : List Int := (List.range n).map fun (k : Nat) => (k : Int)
theorem iotaL_succ (n : Nat) : iotaL (n + 1) = iotaL n ++ [(n : Int)] := by
  unfold iotaL
  rw [List.range_succ, List.map_append]; rfl
theorem iotaL_length (n : Nat) : (iotaL n).length = n := by simp [iotaL]
def nextX (x : Int) : Int := IntKind.u64.wrap (IntKind.u64.wrap (x * 6364136223846793005) + 1442695040888963407)
def pickK (y : Int) (j : Nat) : Nat := ((y / 8589934592).tmod ((j : Int) + 1)).toNat
def swapL (l : List Int) (i k : Nat) : List Int := (l.set i (l.getD k 0)).set k (l.getD i 0)
def shufF : Nat → Int → List Int → List Int
  | 0, _, l => l
  | i + 1, x, l => shufF i (nextX x) (swapL l (i + 1) (pickK (nextX x) (i + 1)))
theorem shufF_step {j : Nat} (h : 0 < j) (x : Int) (l : List Int) : shufF j x l = shufF (j - 1) (nextX x) (swapL l j (pickK (nextX x) j)) := by
  obtain ⟨i, rfl⟩ : ∃ i, j = i + 1 := ⟨j - 1, by omega⟩
  rfl
def shufN (n0 : Int) : Nat := (max 0 (min n0 256)).toNat
def shufS (n0 x : Int) : List Int := shufF (shufN n0 - 1) x (iotaL (shufN n0))
theorem nextX_bd (x : Int) : 0 ≤ nextX x ∧ nextX x ≤ 18446744073709551615 := by
  unfold nextX
  rw [IntKind.wrap_u64 (_ + _)]
  omega
theorem pickK_eq {y : Int} (h0 : 0 ≤ y) (h1 : y ≤ 18446744073709551615) (j : Nat) : wrap64 ((y / 8589934592).tmod ((j : Int) + 1)) = (pickK y j : Nat) ∧ pickK y j ≤ j := by
  have a0 : 0 ≤ y / 8589934592 := by omega
  have a1 := Int.tmod_nonneg ((j : Int) + 1) a0
  have a2 := Int.tmod_lt_of_pos (y / 8589934592) (show (0 : Int) < (j : Int) + 1 by omega)
  have a3 : (y / 8589934592).tmod ((j : Int) + 1) ≤ y / 8589934592 := by
    rw [Int.tmod_eq_emod_of_nonneg a0]
    have := Int.emod_lt_of_pos (y / 8589934592) (show (0 : Int) < (j : Int) + 1 by omega)
    have h1 := Int.mul_ediv_add_emod (y / 8589934592) ((j : Int) + 1)
    have h2 : 0 ≤ ((j : Int) + 1) * (y / 8589934592 / ((j : Int) + 1)) := Int.mul_nonneg (by omega) (Int.ediv_nonneg a0 (by omega))
    omega
  unfold pickK
  refine ⟨?_, by omega⟩
  rw [Int.toNat_of_nonneg a1]
  exact IntWalk.wrap64_in _ (by omega)
theorem swapL_length (l : List Int) (i k : Nat) : (swapL l i k).length = l.length := by simp [swapL]
set_option maxRecDepth 100000 in
set_option maxHeartbeats 1600000 in
theorem Shuffle_any (n0 x0 : Int) (w : World) (hx : 0 ≤ x0) (hx2 : x0 ≤ 18446744073709551615) :
    Calls Try.prog 29 #[.int .i64 n0, .int .u64 x0] w fun e w' => ∃ v, e = .returned v ∧ Ext w w' ∧ intE.Own w' w.heap.size v (shufS n0 x0) := by
  obtain ⟨m, hm⟩ : ∃ m : Int, (if (256 : Int) < n0 then 256 else n0) = m := ⟨_, rfl⟩
  have hm2 : m ≤ 256 := by rw [← hm]; split <;> omega
  obtain ⟨n, hn, hn2⟩ : ∃ n : Nat, (if 0 < m then m else 0) = (n : Int) ∧ n ≤ 256 := ⟨(max 0 m).toNat, by split <;> omega, by omega⟩
  have HS := Lib.hid (show shufS n0 x0 = shufF (n - 1) x0 (iotaL n) from by
    unfold shufS
    rw [show shufN n0 = n from by unfold shufN; rw [← hm] at hn; split at hn <;> split at hn <;> omega])
  have hn' : (if m < 0 then 0 else m) = (n : Int) := by
    rw [← hn]; split <;> split <;> omega
  go_enter Try.func29, Try.ntmps29
  go_wp2_with fail
  go_loopw [5, 6, 14] (fun s _ i wr => ∃ k : Nat, k ≤ n ∧ i = .int .i64 k ∧ Ext w wr ∧ intE.Own wr w.heap.size s (iotaL k)) (fun _ _ i _ => n - (intOf i).toNat)
  case atStart => exact ⟨0, Nat.zero_le _, rfl, Ext.refl _, EL.Own.nil _ _⟩
  case round =>
    obtain ⟨k, hk, rfl, hE, hown⟩ := hrel
    by_cases hlt : k < n
    · have hlen : (iotaL k).length + 1 ≤ 1000000000 := by rw [iotaL_length]; omega
      have hsz := hE.size
      have q1 : IntKind.i64.wrap ((k : Int) + 1) = (k : Int) + 1 := IntWalk.i64_in _ (by omega)
      clear hn hn' hm
      go_wp2_with (at_builtin; refine EL.wpApp intE rfl _ _ rfl w.heap.size _ _ _ _ rfl rfl (hown.ext (Ext.alloc _ _)) (intE_one (Box.new _ _ _)) hlen (by simp; omega) ?_; intro v' w' hown' hg _)
      have hE3 := growExt (hE.trans (Ext.alloc _ _)) (hown.ext (Ext.alloc _ _)) (Nat.le_refl _) hg
      go_roundw
      case rel => exact ⟨k + 1, by omega, by go_num, hE3, by rw [iotaL_succ]; exact hown'⟩
      case measure => simp [intOf]; omega
    · have d1 : ((k : Int) < (n : Int)) = False := eq_false (by omega)
      obtain rfl : k = n := by omega
      clear hn hn' hm hlt
      have q1 : IntKind.i64.wrap ((k : Int) - 1) = (k : Int) - 1 := IntWalk.i64_in _ (by omega)
      go_wp2_with fail
      go_loopw [7, 8, 9] (fun x i _ wr => ∃ (ii xx : Int) (l : List Int), i = .int .i64 ii ∧ x = .int .u64 xx ∧ -1 ≤ ii ∧ ii < k ∧ 0 ≤ xx ∧ xx ≤ 18446744073709551615 ∧ Hid (l.length = k) ∧ Ext w wr ∧ intE.Own wr w.heap.size u5 l ∧ Hid (shufF ii.toNat xx l = shufS n0 x0)) (fun _ i _ _ => (intOf i).toNat)
      case atStart => exact ⟨(k : Int) - 1, x0, iotaL k, rfl, rfl, by omega, by omega, hx, hx2, Lib.hid (iotaL_length k), hE, hown, Lib.hid (by rw [HS.out, show ((k : Int) - 1).toNat = k - 1 by omega])⟩
      case round =>
        clear hE hown q1 d1
        obtain ⟨ii, xx, l, rfl, rfl, hi1, hi2, hx1, hx2, HL, hE, hown, HF⟩ := hrel
        by_cases hj0 : 0 < ii
        · obtain ⟨j, rfl⟩ : ∃ j : Nat, ii = j := ⟨ii.toNat, by omega⟩
          have hj1 : 0 < j := by omega
          have hjk : j < k := by omega
          have q2 : IntKind.i64.wrap ((j : Int) + 1) = (j : Int) + 1 := IntWalk.i64_in _ (by omega)
          have q3 : IntKind.i64.wrap ((j : Int) - 1) = (j : Int) - 1 := IntWalk.i64_in _ (by omega)
          have hst := shufF_step hj1 xx l
          rw [show j = (j : Int).toNat by omega, HF.out] at hst
          simp only [Int.toNat_natCast] at hst
          obtain ⟨y, hy⟩ : ∃ y, y = nextX xx := ⟨_, rfl⟩
          obtain ⟨hy0, hy1⟩ := nextX_bd xx
          rw [← hy] at hst hy0 hy1
          have hyy : IntKind.u64.wrap (IntKind.u64.wrap (xx * 6364136223846793005) + 1442695040888963407) = y := hy.symm
          obtain ⟨hp1, hp2⟩ := pickK_eq hy0 hy1 j
          obtain ⟨kk, hkk⟩ : ∃ kk, kk = pickK y j := ⟨_, rfl⟩
          rw [← hkk] at hp1 hp2 hst
          have HST := Lib.hid hst
          have q5 : IntKind.u64.wrap ((j : Int) + 1) = (j : Int) + 1 := by rw [IntKind.wrap_u64]; omega
          have q6 : ¬ ((j : Int) + 1 = 0) := by omega
          have hp3 : wrap64 (y / 8589934592 % ((j : Int) + 1)) = (kk : Int) := by rw [← Int.tmod_eq_emod_of_nonneg (show 0 ≤ y / 8589934592 by omega)]; exact hp1
          have hkkk : kk < k := by omega
          obtain ⟨vj, hvj⟩ : ∃ q, l[j]? = some q := ⟨_, List.getElem?_eq_getElem (by rw [HL.out]; exact hjk)⟩
          obtain ⟨vk, hvk⟩ : ∃ q, l[kk]? = some q := ⟨_, List.getElem?_eq_getElem (by rw [HL.out]; exact hkkk)⟩
          have HSW := Lib.hid (show swapL l j kk = (l.set j vk).set kk vj from by unfold swapL; rw [List.getD_eq_getElem?_getD, List.getD_eq_getElem?_getD, hvj, hvk]; rfl)
          have hL0 : 0 < l.length := by rw [HL.out]; omega
          obtain ⟨g, cap, rfl, hgB, hgc⟩ := hown.head hL0
          rw [HL.out] at hgc
          have e0 := intOwn_cell hown hvj
          have e1 := intOwn_cell hown hvk
          have f0 := intOwn_frozen (i := j) hown
          have f1 := intOwn_frozen (i := kk) hown
          have HOW := Lib.hid ((intOwn_set (i := j) hown vk))
          rw [HL.out]
          clear hy hst hkk hvj hvk hL0 hi1 hi2 hj0 hn2 hk
          go_wp2_with fail
          by_cases hjk2 : j = kk
          · subst hjk2
            obtain rfl : vj = vk := by rw [e0] at e1; injection e1 with e1; injection e1
            have hown2 := intOwn_set (i := j) HOW.out vj
            rw [← HSW.out] at hown2
            go_region
            generalize hW1 : World.setCell (World.setCell _ _ _) _ _ = W1 at *
            have hE2 : Ext w W1 := by rw [← hW1]; exact (hE.setNew hgB _ _).setNew hgB _ _
            go_wp2
            go_roundw
            case rel => exact ⟨(j : Int) - 1, y, swapL l j j, rfl, rfl, by omega, by omega, hy0, hy1, Lib.hid (by rw [swapL_length, HL.out]), hE2.trans (Ext.drew _), by rw [HL.out] at hown2; exact hown2.ext (Ext.drew _), Lib.hid (by rw [HST.out, show ((j : Int) - 1).toNat = j - 1 by omega])⟩
            case measure => simp [intOf]; omega
          · have hne := Ne.symm hjk2
            have hown2 := intOwn_set (i := kk) HOW.out vj
            rw [← HSW.out] at hown2
            go_region
            generalize hW1 : World.setCell (World.setCell _ _ _) _ _ = W1 at *
            have hE2 : Ext w W1 := by rw [← hW1]; exact (hE.setNew hgB _ _).setNew hgB _ _
            go_wp2
            go_roundw
            case rel => exact ⟨(j : Int) - 1, y, swapL l j kk, rfl, rfl, by omega, by omega, hy0, hy1, Lib.hid (by rw [swapL_length, HL.out]), hE2.trans (Ext.drew _), by rw [HL.out] at hown2; exact hown2.ext (Ext.drew _), Lib.hid (by rw [HST.out, show ((j : Int) - 1).toNat = j - 1 by omega])⟩
            case measure => simp [intOf]; omega
        · have d2 : (0 < ii) = False := eq_false hj0
          go_wp2
          go_ret
          exact ⟨_, rfl, hE, by rw [← HF.out, show ii.toNat = 0 by omega]; exact hown⟩
theorem Clamp_any (n lo hi : Int) (w : World) (h : lo ≤ hi) :
    Calls Try.prog 56 #[.int .i64 n, .int .i64 lo, .int .i64 hi] w fun e w' => e = .returned (.int .i64 (max lo (min n hi))) ∧ w = w' := by
  go_enter Try.func56, Try.ntmps56
  by_cases h1 : n < lo
  · have HR := Lib.hid (show max lo (min n hi) = lo by omega)
    have d1 : (n < lo) = True := eq_true h1
    clear h h1
    go_wp2
    go_ret
    exact ⟨ret_eq (by rw [HR.out]; rfl), rfl⟩
  · have d1 : (n < lo) = False := eq_false h1
    by_cases h2 : hi < n
    · have HR := Lib.hid (show max lo (min n hi) = hi by omega)
      have d2 : (hi < n) = True := eq_true h2
      clear h h1 h2
      go_wp2
      go_ret
      exact ⟨ret_eq (by rw [HR.out]; rfl), rfl⟩
    · have HR := Lib.hid (show max lo (min n hi) = n by omega)
      have d2 : (hi < n) = False := eq_false h2
      clear h h1 h2
      go_wp2
      go_ret
      exact ⟨ret_eq (by rw [HR.out]; rfl), rfl⟩
set_option maxRecDepth 100000 in
set_option maxHeartbeats 1600000 in
theorem rShuffle_any (n0 x0 : Int) (w : World) (hx : 0 ≤ x0) (hx2 : x0 ≤ 18446744073709551615) :
    Calls Try.prog 34 #[.int .i64 n0, .int .u64 x0] w fun e w' => ∃ v, e = .returned v ∧ Ext w w' ∧ intE.Own w' w.heap.size v (shufS n0 x0) := by
  obtain ⟨n, hn, hn2⟩ : ∃ n : Nat, max 0 (min n0 256) = (n : Int) ∧ n ≤ 256 := ⟨(max 0 (min n0 256)).toNat, by omega, by omega⟩
  have HS := Lib.hid (show shufS n0 x0 = shufF (n - 1) x0 (iotaL n) from by
    unfold shufS
    rw [show shufN n0 = n from by unfold shufN; omega])
  have HC := Lib.hid (fun W => Clamp_any n0 0 256 W (by omega))
  rw [hn] at HC
  clear hn
  go_enter Try.func34, Try.ntmps34
  go_wp2_with fail
  refine (HC.out _).mono ?_
  rintro e w1 ⟨rfl, rfl⟩
  clear HC
  go_wp2_with fail
  go_loopw [5, 6] (fun s i wr => ∃ k : Nat, k ≤ n ∧ i = .int .i64 k ∧ Ext w wr ∧ intE.Own wr w.heap.size s (iotaL k)) (fun _ i _ => n - (intOf i).toNat)
  case atStart => exact ⟨0, Nat.zero_le _, rfl, Ext.refl _, EL.Own.nil _ _⟩
  case round =>
    obtain ⟨k, hk, rfl, hE, hown⟩ := hrel
    by_cases hlt : k < n
    · have hlen : (iotaL k).length + 1 ≤ 1000000000 := by rw [iotaL_length]; omega
      have hsz := hE.size
      have q1 : IntKind.i64.wrap ((k : Int) + 1) = (k : Int) + 1 := IntWalk.i64_in _ (by omega)
      go_wp2_with (at_builtin; refine EL.wpApp intE rfl _ _ rfl w.heap.size _ _ _ _ rfl rfl (hown.ext (Ext.alloc _ _)) (intE_one (Box.new _ _ _)) hlen (by simp; omega) ?_; intro v' w' hown' hg _)
      have hE3 := growExt (hE.trans (Ext.alloc _ _)) (hown.ext (Ext.alloc _ _)) (Nat.le_refl _) hg
      go_roundw
      case rel => exact ⟨k + 1, by omega, by go_num, hE3, by rw [iotaL_succ]; exact hown'⟩
      case measure => simp [intOf]; omega
    · have d1 : ((k : Int) < (n : Int)) = False := eq_false (by omega)
      obtain rfl : k = n := by omega
      clear hlt
      have q1 : IntKind.i64.wrap ((k : Int) - 1) = (k : Int) - 1 := IntWalk.i64_in _ (by omega)
      go_wp2_with fail
      go_loopw [7, 8, 9, 10] (fun x i _ _ wr => ∃ (ii xx : Int) (l : List Int), i = .int .i64 ii ∧ x = .int .u64 xx ∧ -1 ≤ ii ∧ ii < k ∧ 0 ≤ xx ∧ xx ≤ 18446744073709551615 ∧ Hid (l.length = k) ∧ Ext w wr ∧ intE.Own wr w.heap.size u5 l ∧ Hid (shufF ii.toNat xx l = shufS n0 x0)) (fun _ i _ _ _ => (intOf i).toNat)
      case atStart => exact ⟨(k : Int) - 1, x0, iotaL k, rfl, rfl, by omega, by omega, hx, hx2, Lib.hid (iotaL_length k), hE, hown, Lib.hid (by rw [HS.out, show ((k : Int) - 1).toNat = k - 1 by omega])⟩
      case round =>
        clear hE hown q1 d1
        obtain ⟨ii, xx, l, rfl, rfl, hi1, hi2, hx1, hx2, HL, hE, hown, HF⟩ := hrel
        by_cases hj0 : 0 < ii
        · obtain ⟨j, rfl⟩ : ∃ j : Nat, ii = j := ⟨ii.toNat, by omega⟩
          have d4 : ((1 : Int) ≤ (j : Int)) = True := eq_true (by omega)
          have hj1 : 0 < j := by omega
          have hjk : j < k := by omega
          have q2 : IntKind.i64.wrap ((j : Int) + 1) = (j : Int) + 1 := IntWalk.i64_in _ (by omega)
          have q3 : IntKind.i64.wrap ((j : Int) - 1) = (j : Int) - 1 := IntWalk.i64_in _ (by omega)
          have hst := shufF_step hj1 xx l
          rw [show j = (j : Int).toNat by omega, HF.out] at hst
          simp only [Int.toNat_natCast] at hst
          obtain ⟨y, hy⟩ : ∃ y, y = nextX xx := ⟨_, rfl⟩
          obtain ⟨hy0, hy1⟩ := nextX_bd xx
          rw [← hy] at hst hy0 hy1
          have hyy : IntKind.u64.wrap (IntKind.u64.wrap (xx * 6364136223846793005) + 1442695040888963407) = y := hy.symm
          obtain ⟨hp1, hp2⟩ := pickK_eq hy0 hy1 j
          obtain ⟨kk, hkk⟩ : ∃ kk, kk = pickK y j := ⟨_, rfl⟩
          rw [← hkk] at hp1 hp2 hst
          have HST := Lib.hid hst
          have q5 : IntKind.u64.wrap ((j : Int) + 1) = (j : Int) + 1 := by rw [IntKind.wrap_u64]; omega
          have q6 : ¬ ((j : Int) + 1 = 0) := by omega
          have hp3 : wrap64 (y / 8589934592 % ((j : Int) + 1)) = (kk : Int) := by rw [← Int.tmod_eq_emod_of_nonneg (show 0 ≤ y / 8589934592 by omega)]; exact hp1
          have hkkk : kk < k := by omega
          obtain ⟨vj, hvj⟩ : ∃ q, l[j]? = some q := ⟨_, List.getElem?_eq_getElem (by rw [HL.out]; exact hjk)⟩
          obtain ⟨vk, hvk⟩ : ∃ q, l[kk]? = some q := ⟨_, List.getElem?_eq_getElem (by rw [HL.out]; exact hkkk)⟩
          have HSW := Lib.hid (show swapL l j kk = (l.set j vk).set kk vj from by unfold swapL; rw [List.getD_eq_getElem?_getD, List.getD_eq_getElem?_getD, hvj, hvk]; rfl)
          have hL0 : 0 < l.length := by rw [HL.out]; omega
          obtain ⟨g, cap, rfl, hgB, hgc⟩ := hown.head hL0
          rw [HL.out] at hgc
          have e0 := intOwn_cell hown hvj
          have e1 := intOwn_cell hown hvk
          have f0 := intOwn_frozen (i := j) hown
          have f1 := intOwn_frozen (i := kk) hown
          have HOW := Lib.hid ((intOwn_set (i := j) hown vk))
          rw [HL.out]
          have hown2 := intOwn_set (i := kk) HOW.out vj
          rw [← HSW.out] at hown2
          clear hy hst hkk hvj hvk hL0 hi1 hi2 hj0 hn2 hk
          by_cases hjk2 : j = kk
          · subst hjk2
            obtain rfl : vj = vk := by rw [e0] at e1; injection e1 with e1; injection e1
            go_wp2_with fail
            go_roundw
            case rel => exact ⟨(j : Int) - 1, y, swapL l j j, rfl, rfl, by omega, by omega, hy0, hy1, Lib.hid (by rw [swapL_length, HL.out]), (hE.setNew hgB _ _).setNew hgB _ _, by rw [HL.out] at hown2; exact hown2, Lib.hid (by rw [HST.out, show ((j : Int) - 1).toNat = j - 1 by omega])⟩
            case measure => simp [intOf]; omega
          · have hne := Ne.symm hjk2
            go_wp2_with fail
            go_roundw
            case rel => exact ⟨(j : Int) - 1, y, swapL l j kk, rfl, rfl, by omega, by omega, hy0, hy1, Lib.hid (by rw [swapL_length, HL.out]), (hE.setNew hgB _ _).setNew hgB _ _, by rw [HL.out] at hown2; exact hown2, Lib.hid (by rw [HST.out, show ((j : Int) - 1).toNat = j - 1 by omega])⟩
            case measure => simp [intOf]; omega
        · have d2 : (1 ≤ ii) = False := eq_false (by omega)
          go_wp2
          go_ret
          exact ⟨_, rfl, hE, by rw [← HF.out, show ii.toNat = 0 by omega]; exact hown⟩
end Go.Proofs.Ytefdheoalonbaaa
