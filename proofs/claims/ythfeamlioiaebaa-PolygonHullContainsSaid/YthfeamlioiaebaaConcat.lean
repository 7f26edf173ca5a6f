/- slices.Concat of rows of points. -/
import Derived.Test.YthfeamlioiaebaaApp
import Derived.Test.YthfeamlioiaebaaValid
set_option linter.unusedVariables false
set_option linter.unusedSimpArgs false
namespace Go.Proofs.Ythfeamlioiaebaa
open Go.RowKit Go.Par

theorem flatten_take_succ {L : List (List P2)} {k : Nat} {r : List P2} (h : L[k]? = some r) : (L.take (k + 1)).flatten = (L.take k).flatten ++ r := by
  rw [List.take_add_one, h]
  simp
theorem flatten_length (L : List (List P2)) : L.flatten.length = lenS L := by
  unfold lenS
  rw [List.length_flatten]

set_option maxRecDepth 100000 in
set_option maxHeartbeats 1600000 in
theorem Concat_any (L : List (List P2)) (A : Option Addr) (c : Nat) (w : World) (hc : L.length ≤ 17592186044416) (hL : RingsAt w A L) (hS : lenS L ≤ 1000000) :
    Calls Try.prog 50 #[.slice A L.length c] w fun e w' => ∃ v, e = .returned v ∧ Ext w w' ∧ Pts w' v L.flatten := by
  obtain ⟨n, hn⟩ : ∃ n, n = L.length := ⟨_, rfl⟩
  rw [← hn]
  have HN := Lib.hid hn
  rw [← hn] at hc
  have HSZ := Lib.hid hS
  clear hn hS
  go_enter Try.func50, Try.ntmps50
  go_wp2_with fail
  go_loopw [3, 5, 11] (fun s _ i wr => ∃ k : Nat, k ≤ n ∧ i = .int .i64 k ∧ s = .int .i64 (lenS (L.take k) : Nat) ∧ Ext w wr) (fun _ _ i _ => n - (intOf i).toNat)
  case atStart => exact ⟨0, Nat.zero_le _, rfl, rfl, Ext.refl _⟩
  case round =>
    obtain ⟨k, hk, rfl, rfl, hE⟩ := hrel
    by_cases hlt : k < n
    · obtain ⟨r, hlk⟩ : ∃ r, L[k]? = some r := ⟨_, List.getElem?_eq_getElem (by rw [← HN.out]; exact hlt)⟩
      obtain ⟨b, o, rfl, hcell⟩ := hL (fun e => by rw [e] at hlk; simp at hlk)
      obtain ⟨v, c0, A', c', rfl, hlc, hlb, hP⟩ := hcell k r hlk
      have c1 := hE.cell c0
      have hsum := lenS_take_succ hlk
      have hle := lenS_take_le L (k + 1)
      have hle' := HSZ.out
      obtain ⟨t, ht⟩ : ∃ t, t = lenS (L.take k) := ⟨_, rfl⟩
      rw [← ht] at hsum ⊢
      obtain ⟨m, hm⟩ : ∃ m, m = r.length := ⟨_, rfl⟩
      rw [← hm] at c1 hsum
      have htm : t + m ≤ 1000000 := by omega
      have HS := Lib.hid hsum
      clear hlk hcell c0 hP hm hlc hlb hsum hle hle' ht
      go_wp2
      go_roundw
      case rel => exact ⟨k + 1, by omega, by go_num, by rw [HS.out]; go_num, hE⟩
      case measure => simp [intOf]; omega
    · have hfin : L.take k = L := List.take_of_length_le (by rw [← HN.out]; omega)
      rw [hfin]
      have hle' := HSZ.out
      clear hfin
      obtain ⟨t, ht⟩ : ∃ t, t = lenS L := ⟨_, rfl⟩
      rw [← ht] at hle' ⊢
      have HT := Lib.hid ht
      clear ht
      go_wp2_with fail
      refine (Grow_any t _ (by omega)).mono ?_
      rintro e w1 ⟨v0, rfl, hE1, hown⟩
      have hE2 := hE.trans hE1
      have hsz1 := hE1.size
      have hbase := hE.size
      obtain ⟨B, hB⟩ : ∃ B, B = wr.heap.size := ⟨_, rfl⟩
      rw [← hB] at hown hsz1 hbase
      clear hE hE1 hB
      go_wp2_with fail
      go_loopw [6, 8, 27] (fun s _ i wr => ∃ k : Nat, k ≤ n ∧ i = .int .i64 k ∧ Ext w wr ∧ B ≤ wr.heap.size ∧ Own wr B s (L.take k).flatten) (fun _ _ i _ => n - (intOf i).toNat)
      case atStart => exact ⟨0, Nat.zero_le _, rfl, hE2, hsz1, hown⟩
      case round =>
        clear hown hE2 hsz1
        obtain ⟨j, hj, rfl, hE, hsz, hown⟩ := hrel
        by_cases hlt' : j < n
        · obtain ⟨r, hlk⟩ : ∃ r, L[j]? = some r := ⟨_, List.getElem?_eq_getElem (by rw [← HN.out]; exact hlt')⟩
          obtain ⟨b, o, rfl, hcell⟩ := hL (fun e => by rw [e] at hlk; simp at hlk)
          obtain ⟨v, c0, hP⟩ := hcell j r hlk
          have c1 := hE.cell c0
          have hP1 := hP.ext hE
          have hsum := lenS_take_succ hlk
          have hle := lenS_take_le L (j + 1)
          have hb2 : (L.take j).flatten.length + r.length ≤ 1000000000 := by have := HT.out; rw [flatten_length, ← hsum]; omega
          have hfl := flatten_take_succ hlk
          have HF := Lib.hid hfl
          clear hlk hcell c0 hP hsum hle hfl
          go_wp2_with (at_builtin; refine wpList_app rfl _ _ rfl B _ _ _ _ rfl rfl hown hP1 hb2 hsz ?_; intro v' w' hown' hg)
          have hE3 := Ext.grow hE hown hbase hg
          have hsz3 : B ≤ w'.heap.size := Nat.le_trans hsz hg.size
          go_roundw
          case rel => exact ⟨j + 1, by omega, by go_num, hE3, hsz3, by rw [HF.out]; exact hown'⟩
          case measure => simp [intOf]; omega
        · have hfin : L.take j = L := List.take_of_length_le (by rw [← HN.out]; omega)
          rw [hfin] at hown
          have hPf := hown.pts (by rw [flatten_length, ← HT.out]; omega)
          clear hfin hown
          go_wp2
          go_ret
          exact ⟨_, rfl, hE, hPf⟩
end Go.Proofs.Ythfeamlioiaebaa
