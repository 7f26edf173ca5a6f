/- slices.Grow and slices.Concat at runs. -/
import Derived.Test.YtkjpcjmbhpfelaaGreatZB
set_option linter.unusedVariables false
set_option linter.unusedSimpArgs false
namespace Go.Proofs.YtkjpcjmbhpfelaaGreat
open Go.RowKit Go.Par Go.Reg

/-- slices of runs, in a row -/
def slRE : EL Tryz.prog (Option Addr × Nat × Nat) where
  enc := fun r => [.slice r.1 r.2.1 r.2.2]
  size := 1
  t := 85
  st := 127
  zero := .slice none 0 0
  bytes := 24
  len := fun _ => rfl
  one := fun x v hv => by simp at hv; rcases hv with rfl; rfl
  pos := by decide
  und := Tryz.underlying127
  info := by kernel_rfl
  zsize := rfl
  small := by decide
def RunRows (w : World) (ss : List (Option Addr × Nat × Nat)) (ls : List (List Run)) : Prop :=
  ss.length = ls.length ∧ ∀ (i : Nat) (l : List Run), ls[i]? = some l → ∃ A n c, ss[i]? = some (A, n, c) ∧ l.length = n ∧ n ≤ c ∧ n ≤ 17592186044416 ∧ runE.At w A l
theorem RunRows.ext {w w' : World} {ss : List (Option Addr × Nat × Nat)} {ls : List (List Run)} (h : RunRows w ss ls) (he : Ext w w') : RunRows w' ss ls :=
  ⟨h.1, fun i l hl => by obtain ⟨A, n, c, h1, h2, h3, h4, h5⟩ := h.2 i l hl; exact ⟨A, n, c, h1, h2, h3, h4, h5.ext he⟩⟩
theorem info_run : (Tryz.prog.info? 92).map (fun i => (i.zero, i.size, i.bytes)) = some (some (.agg #[.int .i64 0, .int .i64 0]), 2, 16) := by kernel_rfl
def lenS (L : List (List Run)) : Nat := L.flatten.length
theorem lenS_take_succ {L : List (List Run)} {k : Nat} {r : List Run} (h : L[k]? = some r) : lenS (L.take (k + 1)) = lenS (L.take k) + r.length := by
  unfold lenS
  rw [flat_next h, List.length_append]
theorem lenS_take_le (L : List (List Run)) (k : Nat) : lenS (L.take k) ≤ lenS L := by
  have e : L.flatten = (L.take k).flatten ++ (L.drop k).flatten := by rw [← List.flatten_append, List.take_append_drop]
  unfold lenS
  rw [e, List.length_append]
  omega
set_option maxRecDepth 100000 in
set_option maxHeartbeats 1600000 in
/-- slices.Grow at the nil slice -/
theorem Grow_any (n : Nat) (w : World) (hn : n ≤ 1000000000) :
    Calls Tryz.prog 83 #[.slice none 0 0, .int .i64 n] w fun e w' => ∃ v, e = .returned v ∧ Ext w w' ∧ runE.Own w' w.heap.size v [] := by
  by_cases h0 : n = 0
  · subst h0
    go_enter Tryz.func83, Tryz.ntmps83
    go_wp2
    go_ret
    exact ⟨_, rfl, Ext.refl w, EL.Own.nil w _⟩
  · obtain ⟨i0, hi, hz0, hz1, hz2⟩ := info_parts info_run
    have hold : (Builtin.firstCells i0.size 0 (.slice none 0 0)).run Tryz.prog w.drew = .ok (List.toArray []) w.drew := run_firstCells_none w.drew i0.size 0 0 0
    have hrz : ∀ ty, (Builtin.append_ #[85, 3] ty #[.slice none 0 0, .int .i64 n]).run Tryz.prog w = _ := fun ty =>
      Lib.run_append_grow_zeros w 85 3 ty 92 i0 _ .i64 .i64 Tryz.underlying85 Tryz.underlying3 hi hz0 none 0 0 [] hold n (by omega) (by rw [hz1]; decide) (by omega) (by omega) (by rw [hz2]; omega)
        (growslice_fits (by omega) (by rw [hz2]; omega))
    have hG := grownCap_ge w (0 + n) 0 92
    have hG' := grownCap_le_maxLen w (0 + n) 0 92 (by unfold maxLen; omega)
    generalize grownCap w (0 + n) 0 92 = G at *
    have hsz : ((List.toArray ([] : List Value)) ++ Builtin.zeroCells (Value.agg #[.int .i64 0, .int .i64 0]).cells n ++ Builtin.zeroCells (Value.agg #[.int .i64 0, .int .i64 0]).cells (G - (0 + n))).size = G * 2 := by
      simp only [Array.size_append, size_zeroCells]
      show 0 + n * 2 + (G - (0 + n)) * 2 = G * 2
      omega
    generalize ((List.toArray ([] : List Value)) ++ Builtin.zeroCells (Value.agg #[.int .i64 0, .int .i64 0]).cells n ++ Builtin.zeroCells (Value.agg #[.int .i64 0, .int .i64 0]).cells (G - (0 + n))) = cs at *
    have HS := Lib.hid hsz
    have hGi : (G : Int) ≤ 9223372036854775807 := by unfold maxLen at hG'; omega
    have HG := Lib.hid hG'
    clear hsz hG' hold hi hz0 hz1 hz2
    go_enter Tryz.func83, Tryz.ntmps83
    go_wp2_with (at_builtin; refine Lib.wpList_append_run _ rfl _ _ _ _ rfl _ _ rfl rfl _ _ (hrz _) ?_)
    go_ret
    exact ⟨_, rfl, (Ext.drew w).trans (Ext.alloc _ _), World.ownsRow_made w.drew cs G (Nat.le_refl _) HG.out HS.out⟩
set_option maxRecDepth 100000 in
set_option maxHeartbeats 1600000 in
theorem Concat_any (L : List (List Run)) (ss : List (Option Addr × Nat × Nat)) (A : Option Addr) (n c : Nat) (w : World) (hn : L.length = n) (hc : n ≤ 17592186044416) (hA : slRE.At w A ss) (hL : RunRows w ss L) (hS : lenS L ≤ 1000000) :
    Calls Tryz.prog 66 #[.slice A n c] w fun e w' => ∃ v, e = .returned v ∧ Ext w w' ∧ runE.Own w' w.heap.size v L.flatten := by
  have HN := Lib.hid hn
  have HSZ := Lib.hid hS
  clear hn hS
  go_enter Tryz.func66, Tryz.ntmps66
  go_wp2_with fail
  go_loopw [3, 5, 11] (fun s _ i wr => ∃ k : Nat, k ≤ n ∧ i = .int .i64 k ∧ s = .int .i64 (lenS (L.take k) : Nat) ∧ Ext w wr) (fun _ _ i _ => n - (intOf i).toNat)
  case atStart => exact ⟨0, Nat.zero_le _, rfl, rfl, Ext.refl _⟩
  case round =>
    obtain ⟨k, hk, rfl, rfl, hE⟩ := hrel
    by_cases hlt : k < n
    · obtain ⟨r, hlk⟩ : ∃ r, L[k]? = some r := ⟨_, List.getElem?_eq_getElem (by rw [HN.out]; exact hlt)⟩
      obtain ⟨A', m, c', hsk, hm, hmc, hlb, hP⟩ := hL.2 k r hlk
      obtain ⟨b, o, rfl⟩ := hA.addr hsk
      have c1 := hE.cell (hA.cellAt (j := 0) hsk rfl)
      simp only [slRE, Nat.mul_one, Nat.add_zero] at c1
      have hsum := lenS_take_succ hlk
      have hle := lenS_take_le L (k + 1)
      have hle' := HSZ.out
      obtain ⟨t, ht⟩ : ∃ t, t = lenS (L.take k) := ⟨_, rfl⟩
      rw [← ht] at hsum ⊢
      rw [hm] at hsum
      have htm : t + m ≤ 1000000 := by omega
      have HS := Lib.hid hsum
      have dk : ((k : Int) < (n : Int)) = True := eq_true (by omega)
      clear hlk hsk hP hm hlb hsum hle hle' ht
      go_wp2
      go_roundw
      case rel => exact ⟨k + 1, by omega, by go_num, by rw [HS.out]; go_num, hE⟩
      case measure => simp [intOf]; omega
    · have hfin : L.take k = L := List.take_of_length_le (by rw [HN.out]; omega)
      rw [hfin]
      have hle' := HSZ.out
      clear hfin
      obtain ⟨t, ht⟩ : ∃ t, t = lenS L := ⟨_, rfl⟩
      rw [← ht] at hle' ⊢
      have HT := Lib.hid ht
      have dk : ((k : Int) < (n : Int)) = False := eq_false (by omega)
      clear ht
      go_wp2_with fail
      refine (Grow_any t _ (by omega)).mono ?_
      rintro e w1 ⟨v0, rfl, hE1, hown⟩
      have hE2 := hE.trans hE1
      have hsz1 := hE1.size
      have hbase := hE.size
      obtain ⟨B, hB⟩ : ∃ B, B = wr.heap.size := ⟨_, rfl⟩
      rw [← hB] at hown hsz1 hbase
      clear hE hE1 hB dk
      go_wp2_with fail
      go_loopw [6, 8, 27] (fun s _ i wr => ∃ k : Nat, k ≤ n ∧ i = .int .i64 k ∧ Ext w wr ∧ B ≤ wr.heap.size ∧ runE.Own wr B s (L.take k).flatten) (fun _ _ i _ => n - (intOf i).toNat)
      case atStart => exact ⟨0, Nat.zero_le _, rfl, hE2, hsz1, hown⟩
      case round =>
        clear hown hE2 hsz1
        obtain ⟨j, hj, rfl, hE, hsz, hown⟩ := hrel
        by_cases hlt' : j < n
        · obtain ⟨r, hlk⟩ : ∃ r, L[j]? = some r := ⟨_, List.getElem?_eq_getElem (by rw [HN.out]; exact hlt')⟩
          obtain ⟨A', m, c', hsk, hm, hmc, hlb, hP⟩ := hL.2 j r hlk
          obtain ⟨b, o, rfl⟩ := hA.addr hsk
          have c1 := hE.cell (hA.cellAt (j := 0) hsk rfl)
          simp only [slRE, Nat.mul_one, Nat.add_zero] at c1
          have hP1 : runE.Row wr (.slice A' m c') r := ⟨A', c', by rw [hm], by rw [hm]; exact hmc, by rw [hm]; exact hlb, hP.ext hE⟩
          have hsum := lenS_take_succ hlk
          have hle := lenS_take_le L (j + 1)
          have hb2 : (L.take j).flatten.length + r.length ≤ 1000000000 := by have := HT.out; have h2 : (L.take j).flatten.length = lenS (L.take j) := rfl; rw [h2, ← hsum]; omega
          have HF := Lib.hid (flat_next hlk)
          have dj : ((j : Int) < (n : Int)) = True := eq_true (by omega)
          have HB2 := Lib.hid hb2
          clear hlk hsk hP hsum hle hb2 hm
          go_wp2_with (at_builtin; refine EL.wpApp runE rfl _ _ rfl B _ _ _ _ rfl rfl hown hP1 HB2.out hsz ?_; intro v' w' hown' hg _)
          have hE3 := growExt hE hown hbase hg
          have hsz3 : B ≤ w'.heap.size := Nat.le_trans hsz hg.size
          go_roundw
          case rel => exact ⟨j + 1, by omega, by go_num, hE3, hsz3, by rw [HF.out]; exact hown'⟩
          case measure => simp [intOf]; omega
        · have hfin : L.take j = L := List.take_of_length_le (by rw [HN.out]; omega)
          rw [hfin] at hown
          have dj : ((j : Int) < (n : Int)) = False := eq_false (by omega)
          clear hfin
          go_wp2
          go_ret
          exact ⟨_, rfl, hE, hown.lower hbase⟩
end Go.Proofs.YtkjpcjmbhpfelaaGreat
