/- Copies of rows of points; reversing. -/
import Derived.Test.YthfeamlioiaebaaExample
set_option linter.unusedVariables false
set_option linter.unusedSimpArgs false
namespace Go.Proofs.Ythfeamlioiaebaa
open Go.RowKit Go.Par

theorem Pts.one {w : World} {b : Nat} {t : TypeId} {x y : Int} (h : Box w b t #[.int .i64 x, .int .i64 y]) : Pts w (.slice (some ⟨b, 0, none⟩) 1 1) [(x, y)] :=
  ⟨_, _, rfl, Nat.le_refl _, (by simp), ptsOfBox h rfl⟩
theorem Own.made (w : World) : Own (w.alloc (.cells #[] 24)) w.heap.size (.slice (some ⟨w.heap.size, 0, none⟩) 0 0) [] :=
  World.ownsRow_made w #[] 0 (Nat.le_refl _) (by decide) rfl
theorem Own.block {w : World} {base : Nat} {v : Value} {l : List P2} (h : Own w base v l) : v.ownBlock = none ∨ ∃ g, v.ownBlock = some g ∧ base ≤ g := by
  cases hv : v.ownBlock with
  | none => exact .inl rfl
  | some g => exact .inr ⟨g, rfl, (World.ownsRow.lt h g hv).1⟩
set_option maxRecDepth 100000 in
set_option maxHeartbeats 1600000 in
theorem copied_any (l : List P2) (A : Option Addr) (c : Nat) (w : World) (hc : l.length ≤ 1000000) (hP : PtsAt w A l) :
    Calls Try.prog 69 #[.slice A l.length c] w fun e w' => ∃ v, e = .returned v ∧ Ext w w' ∧ Own w' w.heap.size v l := by
  obtain ⟨n, hn⟩ : ∃ n, n = l.length := ⟨_, rfl⟩
  rw [← hn]
  have HN := Lib.hid hn
  rw [← hn] at hc
  clear hn
  go_enter Try.func69, Try.ntmps69
  go_wp2_with fail
  go_loopw [3, 4] (fun s i wr => ∃ k : Nat, k ≤ n ∧ i = .int .i64 k ∧ Ext w wr ∧ Own wr w.heap.size s (l.take k)) (fun _ i _ => n - (intOf i).toNat)
  case atStart => exact ⟨0, Nat.zero_le _, rfl, Ext.alloc _ _, Own.made w⟩
  case round =>
    obtain ⟨k, hk, rfl, hE, hown⟩ := hrel
    by_cases hlt : k < n
    · obtain ⟨⟨x, y⟩, hlk⟩ : ∃ q, l[k]? = some q := ⟨_, List.getElem?_eq_getElem (by rw [← HN.out]; exact hlt)⟩
      obtain ⟨b, o, rfl, hcell⟩ := hP (fun e => by rw [e] at hlk; simp at hlk)
      have c0 := hE.cell (hcell k _ hlk).1
      have c1 := hE.cell (hcell k _ hlk).2
      have hsn := take_snoc hlk
      have hlen : (l.take k).length + 1 ≤ 1000000000 := by rw [List.length_take]; omega
      have HS := Lib.hid hsn
      have hsz := hE.size
      clear hlk hcell hsn
      go_wp2_with (at_builtin; refine wpList_app rfl _ _ rfl w.heap.size _ _ _ _ rfl rfl (hown.ext (Ext.alloc _ _)) (Pts.one (Box.new _ _ _)) hlen (by simp; omega) ?_; intro v' w' hown' hg)
      have hE2 := Ext.grow (hE.trans (Ext.alloc _ _)) (hown.ext (Ext.alloc _ _)) (Nat.le_refl _) hg
      go_roundw
      case rel => exact ⟨k + 1, by omega, by go_num, hE2, by rw [HS.out]; exact hown'⟩
      case measure => simp [intOf]; omega
    · have hfin : l.take k = l := List.take_of_length_le (by rw [← HN.out]; omega)
      rw [hfin] at hown
      clear hfin
      go_wp2
      go_ret
      exact ⟨_, rfl, hE, hown⟩
theorem nil_eq (c : Nat) (w : World) : (binOp .eql 38 (.slice none 0 c) (.slice none 0 0)).run Try.prog w = .ok (.bool true) w := by kernel_rfl
theorem some_eq (a : Addr) (n c : Nat) (w : World) : (binOp .eql 38 (.slice (some a) n c) (.slice none 0 0)).run Try.prog w = .ok (.bool false) w := by kernel_rfl
set_option maxRecDepth 100000 in
set_option maxHeartbeats 1600000 in
theorem Clone_any (l : List P2) (A : Option Addr) (c : Nat) (w : World) (hlc : l.length ≤ c) (hc : l.length ≤ 1000000) (hP : PtsAt w A l) :
    Calls Try.prog 67 #[.slice A l.length c] w fun e w' => ∃ v, e = .returned v ∧ Ext w w' ∧ Own w' w.heap.size v l := by
  cases A with
  | none =>
    have e : l = [] := by
      cases l with
      | nil => rfl
      | cons p l => obtain ⟨b, o, e, _⟩ := hP (by simp); cases e
    subst e
    show Calls Try.prog 67 #[.slice none 0 c] w _
    clear hP hc
    go_enter Try.func67, Try.ntmps67
    have heq := nil_eq c
    go_wp2
    go_ret
    exact ⟨_, rfl, Ext.refl w, Own.nil w _⟩
  | some a =>
    obtain ⟨n, hn⟩ : ∃ n, n = l.length := ⟨_, rfl⟩
    have hpts : ∀ W, Ext w W → Pts W (.slice (some a) n c) l := fun W h => ⟨some a, c, by rw [hn], hlc, by omega, hP.ext h⟩
    rw [← hn]
    have hb : ([] : List P2).length + l.length ≤ 1000000000 := by simp; omega
    rw [← hn] at hc hlc
    clear hn hP
    go_enter Try.func67, Try.ntmps67
    have heq := some_eq a n c
    go_wp2_with (at_builtin; refine wpList_app rfl _ _ rfl w.heap.size _ _ _ _ rfl rfl (Own.made w) (hpts _ (Ext.alloc _ _)) hb (by simp) ?_; intro v' w' hown' hg)
    have hE2 := Ext.grow (Ext.alloc w _) (Own.made w) (Nat.le_refl _) hg
    go_ret
    exact ⟨_, rfl, hE2, hown'⟩
end Go.Proofs.Ythfeamlioiaebaa
