/- Rows of integers; Ints of the reference. -/
import Derived.Test.YtefdheoalonbaaaTileRef
import Derived.BigRegion
set_option linter.unusedVariables false
set_option linter.unusedSimpArgs false
namespace Go.Proofs.Ytefdheoalonbaaa
open Go.RowKit Go.Par

def intE : EL Try.prog Int where
  enc := fun r => [.int .i64 r]
  size := 1
  t := 3
  st := 49
  zero := .int .i64 0
  bytes := 8
  len := fun _ => rfl
  one := fun x v hv => by simp at hv; rcases hv with rfl; rfl
  pos := by decide
  und := Try.underlying49
  info := by kernel_rfl
  zsize := rfl
  small := by decide
theorem _root_.Go.Par.Ext.drewN {w w1 : World} (h : Ext w w1) (n : Nat) : Ext w (w1.drewN n) :=
  h.trans ⟨rfl, rfl, rfl, Nat.le_refl _, fun _ _ => rfl⟩
theorem intE_one {w : World} {b : Nat} {a : Int} (h : Box w b 3 #[.int .i64 a]) : intE.Row w (.slice (some ⟨b, 0, none⟩) 1 1) [a] :=
  ⟨_, _, rfl, Nat.le_refl _, (by simp), EL.At.box h fun j v hv => by simpa [EL.cells, intE] using hv⟩
theorem intE_cells (l : List Int) : intE.cells l = l.map (fun x => Value.int .i64 x) := by
  induction l with
  | nil => rfl
  | cons x l ih => rw [EL.cells_cons, ih]; rfl
theorem intE_cell {w : World} {b o : Nat} {l : List Int} (hcell : ∀ i x, l[i]? = some x → ∀ j v, (intE.enc x)[j]? = some v → w.cell? ⟨b, o + i * intE.size + j, none⟩ = some v) {k : Nat} {x : Int} (hk : l[k]? = some x) :
    w.cell? ⟨b, o + k, none⟩ = some (.int .i64 x) := by
  have := hcell k x hk 0 _ rfl
  simpa [intE] using this
theorem intOwn_set {w : World} {B g n cap i : Nat} {l : List Int} (h : intE.Own w B (.slice (some ⟨g, 0, none⟩) n cap) l) (x : Int) : intE.Own (w.setCell ⟨g, i, none⟩ (.int .i64 x)) B (.slice (some ⟨g, 0, none⟩) n cap) (l.set i x) := by
  obtain ⟨cur, hl, hb, hg, hcap, hm, hs, hc⟩ := h.opened
  refine EL.Own.mk (by rw [List.length_set]; exact hl) hb (hg.set i _) hcap hm (by rw [Array.size_setIfInBounds]; exact hs) fun j v hv => ?_
  rw [intE_cells, List.getElem?_map, List.getElem?_set] at hv
  rw [Array.getElem?_setIfInBounds]
  split at hv
  · next e =>
    subst e
    split at hv
    · next hi =>
      rw [if_pos rfl, if_pos (by rw [hs]; simp [intE]; omega)]
      exact hv
    · cases hv
  · next e =>
    rw [if_neg e]
    refine hc j v ?_
    rw [intE_cells, List.getElem?_map]
    exact hv
theorem intOwn_cell {w : World} {B g n cap i : Nat} {l : List Int} (h : intE.Own w B (.slice (some ⟨g, 0, none⟩) n cap) l) {x : Int} (hi : l[i]? = some x) : w.cell? ⟨g, i, none⟩ = some (.int .i64 x) := by
  obtain ⟨cur, hl, hb, hg, hcap, hm, hs, hc⟩ := h.opened
  rw [hg.cell]
  exact hc i _ (by rw [intE_cells, List.getElem?_map, hi]; rfl)
theorem intOwn_frozen {w : World} {B g n cap i : Nat} {l : List Int} (h : intE.Own w B (.slice (some ⟨g, 0, none⟩) n cap) l) : w.frozen? ⟨g, i, none⟩ = false := by
  obtain ⟨cur, hl, hb, hg, _⟩ := h.opened
  exact hg.frozen i
set_option maxHeartbeats 800000 in
theorem Ints_any (l m : List Int) (A1 A2 : Option Addr) (c1 c2 n k : Nat) (w : World) (hn : l.length = n) (hk : m.length = k) (hb1 : n ≤ 17592186044416) (hb2 : k ≤ 17592186044416) (h1 : intE.At w A1 l) (h2 : intE.At w A2 m) :
    Calls Try.prog 33 #[.slice A1 n c1, .slice A2 k c2] w fun e w' => e = .returned (.bool (decide (l = m))) ∧ Ext w w' := by
  have HN := Lib.hid hn
  have HK := Lib.hid hk
  clear hn hk
  go_enter Try.func33, Try.ntmps33
  by_cases hnk : n = k
  · subst hnk
    have d1 : ((n : Int) == (n : Int)) = true := by simp
    go_wp2_with fail
    go_loopw [5] (fun i wr => ∃ j : Nat, j ≤ n ∧ i = .int .i64 j ∧ Ext w wr ∧ Hid (l.take j = m.take j)) (fun i _ => n - (intOf i).toNat)
    case atStart => exact ⟨0, Nat.zero_le _, rfl, Ext.refl _, Lib.hid (by simp)⟩
    case round =>
      obtain ⟨j, hj, rfl, hE, HT⟩ := hrel
      by_cases hlt : j < n
      · obtain ⟨x, hlx⟩ : ∃ q, l[j]? = some q := ⟨_, List.getElem?_eq_getElem (by rw [HN.out]; exact hlt)⟩
        obtain ⟨y, hly⟩ : ∃ q, m[j]? = some q := ⟨_, List.getElem?_eq_getElem (by rw [HK.out]; exact hlt)⟩
        obtain ⟨b, o, rfl, hcell⟩ := h1 (fun e => by rw [e] at hlx; simp at hlx)
        obtain ⟨b', o', rfl, hcell'⟩ := h2 (fun e => by rw [e] at hly; simp at hly)
        have e0 := hE.cell (intE_cell hcell hlx)
        have e1 := hE.cell (intE_cell hcell' hly)
        have HX := Lib.hid hlx
        have HY := Lib.hid hly
        clear hcell hcell' hlx hly
        by_cases hxy : x = y
        · subst hxy
          have d2 : (x == x) = true := by simp
          have HS := Lib.hid (show l.take (j + 1) = m.take (j + 1) from by
            rw [List.take_add_one, List.take_add_one, HX.out, HY.out, HT.out])
          go_wp2_with fail
          go_quiet (fail)
          go_wp2
          go_roundw
          case rel => exact ⟨j + 1, by omega, by go_num, hE.drewN _, HS⟩
          case measure => simp [intOf]; omega
        · have d2 : (x == y) = false := by simpa using hxy
          have HS := Lib.hid (show ¬ l = m from fun e => hxy (by
            have h1 := HX.out
            rw [e, HY.out] at h1
            injection h1 with h1
            exact h1.symm))
          clear hxy
          go_wp2_with fail
          go_quiet (fail)
          go_wp2
          go_ret
          exact ⟨ret_eq (by rw [decide_eq_false HS.out]; rfl), hE.drewN _⟩
      · have HS := Lib.hid (show l = m from by
          have := HT.out
          rwa [List.take_of_length_le (by rw [HN.out]; omega), List.take_of_length_le (by rw [HK.out]; omega)] at this)
        have d3 : ((j : Int) < (n : Int)) = False := eq_false (by omega)
        go_wp2
        go_ret
        exact ⟨ret_eq (by rw [decide_eq_true HS.out]; rfl), hE⟩
  · have d1 : ((n : Int) == (k : Int)) = false := by simp; omega
    have HS := Lib.hid (show ¬ l = m from fun e => hnk (by rw [← HN.out, ← HK.out, e]))
    clear hnk
    go_wp2
    go_ret
    exact ⟨ret_eq (by rw [decide_eq_false HS.out]; rfl), Ext.refl _⟩
end Go.Proofs.Ytefdheoalonbaaa
