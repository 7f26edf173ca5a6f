/- FromPolylines in the reference. -/
import Derived.Test.YthfeamlioiaebaaFrom
set_option linter.unusedVariables false
set_option linter.unusedSimpArgs false
namespace Go.Proofs.Ythfeamlioiaebaa
open Go.RowKit Go.Par

set_option maxRecDepth 100000 in
set_option maxHeartbeats 800000 in
theorem rFrom_any (L : List (List P2)) (A : Option Addr) (c n : Nat) (w : World) (hn : n = L.length) (hc : n ≤ 1000000) (hr : ∀ r ∈ L, r.length ≤ 1000000) (hL : PolysAt w A L) :
    Calls Try.prog 38 #[.slice A n c] w fun e w' => ∃ v vs, e = .returned v ∧ Ext w w' ∧ OwnR w' w.heap.size v vs ∧ Elems w' w.heap.size vs (fromS L) := by
  have HN := Lib.hid hn
  have HRR := Lib.hid hr
  clear hn hr
  go_enter Try.func38, Try.ntmps38
  go_wp2_with fail
  go_loopw [3, 4] (fun s i wr => ∃ (k : Nat) (vs : List Value), k ≤ n ∧ i = .int .i64 k ∧ Ext w wr ∧ OwnR wr w.heap.size s vs ∧ Elems wr w.heap.size vs (fromS (L.take k))) (fun _ i _ => n - (intOf i).toNat)
  case atStart => exact ⟨0, [], Nat.zero_le _, rfl, Ext.alloc _ _, OwnR.made w, Elems.nil _ _⟩
  case round =>
    obtain ⟨k, vs, hk, rfl, hE, hown, hel⟩ := hrel
    by_cases hlt : k < n
    · obtain ⟨r, hlk⟩ : ∃ r, L[k]? = some r := ⟨_, List.getElem?_eq_getElem (by rw [← HN.out]; exact hlt)⟩
      obtain ⟨b, o, rfl, hcell⟩ := hL (fun e => by rw [e] at hlk; simp at hlk)
      obtain ⟨v, q, c0, c1, A1, c1', rfl, hlc, hlb, hP⟩ := hcell k r hlk
      have e0 := hE.cell c0
      have e1 := hE.cell c1
      have hr6 := HRR.out r (List.mem_of_getElem? hlk)
      have hsn := fromS_snoc hlk
      have hvs : vs.length ≤ k := by rw [hel.1]; exact fromS_len L k
      have HC := Lib.hid (fun W (h : Ext w W) => copied_any r A1 c1' W hr6 (hP.ext h))
      have HSN := Lib.hid hsn
      have hrl := hr6
      have HR6 := Lib.hid hr6
      have HPT := Lib.hid (rfl : r.length = r.length)
      obtain ⟨m, hm⟩ : ∃ m, m = r.length := ⟨_, rfl⟩
      rw [← hm] at e0 HC HSN hlc hlb
      have HM := Lib.hid hm
      have hws := hE.size
      clear hlk hcell c0 c1 hsn hm hr6 hrl HPT
      by_cases h3 : 3 ≤ m
      · have d3 : (3 : Int) ≤ (m : Int) := by omega
        go_wp2_with fail
        refine (HC.out _ hE).mono ?_
        rintro e w2 ⟨u, rfl, hE2, hu⟩
        have hE3 := hE.trans hE2
        obtain ⟨A8, c8, rfl, _, _⟩ := hu.at (n := m) HM.out.symm hlb
        have hown2 := hown.ext hE2
        have hel2 := ((hel.ext hE2).snoc HR6.out (hu.lower (B' := w.heap.size) hws)).ext (Ext.alloc w2 (.cells #[.slice A8 m c8] 38))
        have hs2 := hE3.size
        go_wp2_with (at_builtin; refine wpList_appR rfl _ _ rfl w.heap.size _ _ vs [.slice A8 m c8] rfl rfl (hown2.ext (Ext.alloc _ _)) (srcOne hu.oneCell (Box.new _ _ _)) (by simp; omega) (by simp <;> omega) ?_; intro v' w4 hown4 hg)
        have hE5 := Ext.grow (hE3.trans (Ext.alloc _ _)) (hown2.ext (Ext.alloc _ _)) (Nat.le_refl _) hg
        have hel4 := hel2.grow (hown2.ext (Ext.alloc _ _)) hg
        go_roundw
        case rel => exact ⟨k + 1, _, by omega, by go_num, hE5, hown4, by rw [HSN.out, if_pos h3]; exact hel4⟩
        case measure => simp [intOf]; omega
      · have d3 : ¬ (3 : Int) ≤ (m : Int) := by omega
        go_wp2
        go_roundw
        case rel => exact ⟨k + 1, vs, by omega, by go_num, hE, hown, by rw [HSN.out, if_neg h3]; exact hel⟩
        case measure => simp [intOf]; omega
    · have hfin : L.take k = L := List.take_of_length_le (by rw [← HN.out]; omega)
      rw [hfin] at hel
      clear hfin
      go_wp2
      go_ret
      exact ⟨_, vs, rfl, hE, hown, hel⟩
end Go.Proofs.Ythfeamlioiaebaa
