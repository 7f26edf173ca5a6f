/- FromPolylines in the program. -/
import Derived.Test.YthfeamlioiaebaaTrans2
set_option linter.unusedVariables false
set_option linter.unusedSimpArgs false
namespace Go.Proofs.Ythfeamlioiaebaa
open Go.RowKit Go.Par

/-- the cells from the address on hold polylines with these points -/
def PolysAt (w : World) (A : Option Addr) (L : List (List P2)) : Prop :=
  L ≠ [] → ∃ b o, A = some ⟨b, o, none⟩ ∧ ∀ i r, L[i]? = some r → ∃ v q, w.cell? ⟨b, o + i * 2, none⟩ = some v ∧ w.cell? ⟨b, o + i * 2 + 1, none⟩ = some (.bool q) ∧ Pts w v r
theorem PolysAt.ext {w w' : World} {A : Option Addr} {L : List (List P2)} (h : PolysAt w A L) (he : Ext w w') : PolysAt w' A L := fun hl => by
  obtain ⟨b, o, e, hc⟩ := h hl
  refine ⟨b, o, e, fun i r hr => ?_⟩
  obtain ⟨v, q, h1, h2, h3⟩ := hc i r hr
  exact ⟨v, q, he.cell h1, he.cell h2, h3.ext he⟩
def fromS (L : List (List P2)) : List (List P2) := L.filter fun r => decide (3 ≤ r.length)
theorem fromS_snoc {L : List (List P2)} {k : Nat} {r : List P2} (h : L[k]? = some r) : fromS (L.take (k + 1)) = if 3 ≤ r.length then fromS (L.take k) ++ [r] else fromS (L.take k) := by
  unfold fromS
  rw [List.take_add_one, h]
  simp only [Option.toList_some, List.filter_append]
  by_cases h3 : 3 ≤ r.length <;> simp [h3]
theorem fromS_len (L : List (List P2)) (k : Nat) : (fromS (L.take k)).length ≤ k := by
  unfold fromS
  exact Nat.le_trans (List.length_filter_le _ _) (by rw [List.length_take]; omega)
set_option maxRecDepth 100000 in
set_option maxHeartbeats 800000 in
theorem From_any (L : List (List P2)) (A : Option Addr) (c n : Nat) (w : World) (hn : n = L.length) (hc : n ≤ 1000000) (hr : ∀ r ∈ L, r.length ≤ 1000000) (hL : PolysAt w A L) :
    Calls Try.prog 37 #[.slice A n c] w fun e w' => ∃ v vs, e = .returned v ∧ Ext w w' ∧ OwnR w' w.heap.size v vs ∧ Elems w' w.heap.size vs (fromS L) := by
  have HN := Lib.hid hn
  have HRR := Lib.hid hr
  clear hn hr
  go_enter Try.func37, Try.ntmps37
  go_wp2_with fail
  go_loopw [3, 5, 8] (fun s _ i wr => ∃ (k : Nat) (vs : List Value), k ≤ n ∧ i = .int .i64 k ∧ Ext w wr ∧ OwnR wr w.heap.size s vs ∧ Elems wr w.heap.size vs (fromS (L.take k))) (fun _ _ i _ => n - (intOf i).toNat)
  case atStart => exact ⟨0, [], Nat.zero_le _, rfl, Ext.refl w, OwnR.nil _ _, Elems.nil _ _⟩
  case round =>
    obtain ⟨k, vs, hk, rfl, hE, hown, hel⟩ := hrel
    by_cases hlt : k < n
    · obtain ⟨r, hlk⟩ : ∃ r, L[k]? = some r := ⟨_, List.getElem?_eq_getElem (by rw [← HN.out]; exact hlt)⟩
      obtain ⟨b, o, rfl, hcell⟩ := hL (fun e => by rw [e] at hlk; simp at hlk)
      obtain ⟨v, q, c0, c1, A1, c1', rfl, hlc, hlb, hP⟩ := hcell k r hlk
      have e0 := hE.cell c0
      have e1 := hE.cell c1
      have hr6 := HRR.out r (List.mem_of_getElem? hlk)
      have hsn := fromS_snoc hlk
      have hvs : vs.length ≤ k := by rw [hel.1]; exact fromS_len L k
      have HC := Lib.hid (fun W (h : Ext w W) => Clone_any r A1 c1' W hlc hr6 (hP.ext h))
      have HSN := Lib.hid hsn
      have hrl := hr6
      have HR6 := Lib.hid hr6
      have HPT := Lib.hid (rfl : r.length = r.length)
      obtain ⟨m, hm⟩ : ∃ m, m = r.length := ⟨_, rfl⟩
      rw [← hm] at e0 HC HSN hlc hlb
      have HM := Lib.hid hm
      have hws := hE.size
      clear hlk hcell c0 c1 hsn hm hr6 hrl HPT
      by_cases h3 : 3 ≤ m
      · have d3 : (3 : Int) ≤ (m : Int) := by omega
        go_wp2_with fail
        refine (HC.out _ (hE.trans (Ext.alloc _ _))).mono ?_
        rintro e w2 ⟨u, rfl, hE2, hu⟩
        have hE3 := (hE.trans (Ext.alloc _ _)).trans hE2
        obtain ⟨A8, c8, rfl, _, _⟩ := hu.at (n := m) HM.out.symm hlb
        have hown2 := (hown.ext (Ext.alloc _ _)).ext hE2
        have hel2 := (((hel.ext (Ext.alloc _ _)).ext hE2).snoc HR6.out (hu.lower (B' := w.heap.size) (by simp; omega))).ext (Ext.alloc w2 (.cells #[.slice A8 m c8] 38))
        have hs2 := hE3.size
        go_wp2_with (at_builtin; refine wpList_appR rfl _ _ rfl w.heap.size _ _ vs [.slice A8 m c8] rfl rfl (hown2.ext (Ext.alloc _ _)) (srcOne hu.oneCell (Box.new _ _ _)) (by simp; omega) (by simp <;> omega) ?_; intro v' w4 hown4 hg)
        have hE5 := Ext.grow (hE3.trans (Ext.alloc _ _)) (hown2.ext (Ext.alloc _ _)) (Nat.le_refl _) hg
        have hel4 := hel2.grow (hown2.ext (Ext.alloc _ _)) hg
        go_roundw
        case rel => exact ⟨k + 1, _, by omega, by go_num, hE5, hown4, by rw [HSN.out, if_pos h3]; exact hel4⟩
        case measure => simp [intOf]; omega
      · have d3 : ¬ (3 : Int) ≤ (m : Int) := by omega
        go_wp2
        go_roundw
        case rel => exact ⟨k + 1, vs, by omega, by go_num, hE.trans (Ext.alloc _ _), hown.ext (Ext.alloc _ _), by rw [HSN.out, if_neg h3]; exact hel.ext (Ext.alloc _ _)⟩
        case measure => simp [intOf]; omega
    · have hfin : L.take k = L := List.take_of_length_le (by rw [← HN.out]; omega)
      rw [hfin] at hel
      clear hfin
      go_wp2
      go_ret
      exact ⟨_, vs, rfl, hE, hown, hel⟩
end Go.Proofs.Ythfeamlioiaebaa
