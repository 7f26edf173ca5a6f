/- Texts put together: RgE, RgEq, RgFn, RgMap. -/
import Derived.Test.YtkjpcjmbhpfelaaGreatRgLaw
import Derived.BigRegion
import Derived.Maps.Own
import Derived.Maps.OwnSet
import Derived.Maps.RangeWalk
import Derived.Maps.Ext
import Derived.Sort.KeysCollected
/- Kinds of elements: numbers, rectangles, runs, bands. -/
set_option linter.unusedVariables false
set_option linter.unusedSimpArgs false
namespace Go.Par
open Go.RowKit
section
variable {P : Program} {α : Type} {E : EL P α}
theorem EL.rowOne {w : World} {b : Nat} {cs : Array Value} {x : α} (h : Box w b E.t cs) (hc : cs.toList = E.enc x) : E.Row w (.slice (some ⟨b, 0, none⟩) 1 1) [x] :=
  ⟨_, _, rfl, Nat.le_refl _, (by simp), EL.At.box h fun j v hv => by
    rw [EL.cells_cons, EL.cells_nil, List.append_nil, ← hc] at hv
    simpa using hv⟩
theorem EL.Own.cell {w : World} {B g n cap : Nat} {l : List α} (h : E.Own w B (.slice (some ⟨g, 0, none⟩) n cap) l) {i j : Nat} {x : α} {v : Value} (hi : l[i]? = some x) (hv : (E.enc x)[j]? = some v) : w.cell? ⟨g, i * E.size + j, none⟩ = some v := by
  obtain ⟨cur, hl, hb, hg, hcap, hm, hs, hc⟩ := h.opened
  rw [hg.cell]
  exact hc _ _ (E.cells_at hi hv)
theorem EL.Own.frozen {w : World} {B g n cap i : Nat} {l : List α} (h : E.Own w B (.slice (some ⟨g, 0, none⟩) n cap) l) : w.frozen? ⟨g, i, none⟩ = false := by
  obtain ⟨cur, hl, hb, hg, _⟩ := h.opened
  exact hg.frozen i
/-- one cell of one element written -/
theorem EL.Own.setAt {w : World} {B g n cap i j : Nat} {l : List α} (h : E.Own w B (.slice (some ⟨g, 0, none⟩) n cap) l) {x y : α} {v : Value} (hi : l[i]? = some x) (hj : j < E.size) (hy : E.enc y = (E.enc x).set j v) :
    E.Own (w.setCell ⟨g, i * E.size + j, none⟩ v) B (.slice (some ⟨g, 0, none⟩) n cap) (l.set i y) := by
  obtain ⟨cur, hl, hb, hg, hcap, hm, hs, hc⟩ := h.opened
  have hil := (List.getElem?_eq_some_iff.1 hi).1
  refine EL.Own.mk (by rw [List.length_set]; exact hl) hb (hg.set _ v) hcap hm (by rw [Array.size_setIfInBounds]; exact hs) fun k u hu => ?_
  obtain ⟨i', j', z, hz, hu', rfl, hj'⟩ := E.cells_at' hu
  have hlt : i * E.size + j < cur.size := by
    rw [hs]
    have : (i + 1) * E.size ≤ cap * E.size := Nat.mul_le_mul_right _ (by omega)
    rw [Nat.add_mul] at this
    omega
  rw [Array.getElem?_setIfInBounds]
  by_cases hii : i = i'
  · subst hii
    rw [List.getElem?_set_self hil] at hz
    injection hz with hz
    subst hz
    rw [hy] at hu'
    by_cases hjj : j = j'
    · subst hjj
      rw [List.getElem?_set_self (by rw [E.len]; exact hj)] at hu'
      rw [if_pos rfl, if_pos hlt]
      exact hu'
    · rw [List.getElem?_set_ne hjj] at hu'
      rw [if_neg (by omega)]
      exact hc _ _ (E.cells_at hi hu')
  · rw [List.getElem?_set_ne hii] at hz
    rw [if_neg fun e => ?_]
    · exact hc _ _ (E.cells_at hz hu')
    · rcases Nat.lt_or_gt_of_ne hii with k | k
      · have : (i + 1) * E.size ≤ i' * E.size := Nat.mul_le_mul_right _ k
        rw [Nat.add_mul] at this
        omega
      · have : (i' + 1) * E.size ≤ i * E.size := Nat.mul_le_mul_right _ k
        rw [Nat.add_mul] at this
        omega
theorem EL.At.cellAt {w : World} {b o : Nat} {l : List α} (h : E.At w (some ⟨b, o, none⟩) l) {i j : Nat} {x : α} {v : Value} (hi : l[i]? = some x) (hv : (E.enc x)[j]? = some v) : w.cell? ⟨b, o + i * E.size + j, none⟩ = some v := by
  obtain ⟨b', o', e, hc⟩ := h (by rintro rfl; simp at hi)
  injection e with e; injection e with e1 e2; subst e1 e2
  exact hc i x hi j v hv
theorem EL.At.addr {w : World} {A : Option Addr} {l : List α} (h : E.At w A l) {i : Nat} {x : α} (hi : l[i]? = some x) : ∃ b o, A = some ⟨b, o, none⟩ := by
  obtain ⟨b, o, e, _⟩ := h (by rintro rfl; simp at hi)
  exact ⟨b, o, e⟩
theorem ownBlock_cells {W : World} {base k : Nat} {v : Value} {l : List α} (h : E.Own W base v l) (e : some k = v.ownBlock) : base ≤ k ∧ ∃ cur, W.heap[k]? = some (.cells cur E.t (0, 0)) := by
  rcases h.2 with ⟨e', _⟩ | ⟨g, cap, cur, e', hb, hg, _⟩
  · rw [e'] at e; cases e
  · rw [e'] at e
    injection e with e
    subst e
    exact ⟨hb, cur, hg⟩
theorem own_ne_typeG {w : World} {B g : Nat} {v : Value} {l : List α} {t : TypeId} {cs : Array Value} (h : E.Own w B v l) (hb : Box w g t cs) (ht : t ≠ E.t) : v.ownBlock ≠ some g := fun e => by
  obtain ⟨_, cur, hc⟩ := ownBlock_cells h e.symm
  have := hb.symm.trans hc
  simp only [Option.some.injEq, Obj.cells.injEq] at this
  exact ht this.2.1
theorem own_ne_low {w : World} {B g : Nat} {v : Value} {l : List α} (h : E.Own w B v l) (hb : g < B) : v.ownBlock ≠ some g := fun e => by
  have := (World.ownsRow.lt h g e).1
  omega
end
theorem Ext.drewN {w w1 : World} (h : Ext w w1) (n : Nat) : Ext w (w1.drewN n) :=
  h.trans ⟨rfl, rfl, rfl, Nat.le_refl _, fun _ _ => rfl⟩
theorem take_snocG {α : Type} {l : List α} {k : Nat} {x : α} (h : l[k]? = some x) : l.take (k + 1) = l.take k ++ [x] := by
  rw [List.take_add_one, h]; rfl
end Go.Par
namespace Go.Proofs.YtkjpcjmbhpfelaaGreat
open Go.RowKit Go.Par Go.Reg

def intE : EL Tryz.prog Int where
  enc := fun r => [.int .i64 r]
  size := 1
  t := 3
  st := 45
  zero := .int .i64 0
  bytes := 8
  len := fun _ => rfl
  one := fun x v hv => by simp at hv; rcases hv with rfl; rfl
  pos := by decide
  und := Tryz.underlying45
  info := by kernel_rfl
  zsize := rfl
  small := by decide
def rectE : EL Tryz.prog R4 where
  enc := fun r => [.int .i64 r.1, .int .i64 r.2.1, .int .i64 r.2.2.1, .int .i64 r.2.2.2]
  size := 4
  t := 34
  st := 22
  zero := .agg #[.int .i64 0, .int .i64 0, .int .i64 0, .int .i64 0]
  bytes := 32
  len := fun _ => rfl
  one := fun x v hv => by simp at hv; rcases hv with rfl | rfl | rfl | rfl <;> rfl
  pos := by decide
  und := Tryz.underlying22
  info := by kernel_rfl
  zsize := rfl
  small := by decide
def runE : EL Tryz.prog Run where
  enc := fun r => [.int .i64 r.1, .int .i64 r.2]
  size := 2
  t := 92
  st := 85
  zero := .agg #[.int .i64 0, .int .i64 0]
  bytes := 16
  len := fun _ => rfl
  one := fun x v hv => by simp at hv; rcases hv with rfl | rfl <;> rfl
  pos := by decide
  und := Tryz.underlying85
  info := by kernel_rfl
  zsize := rfl
  small := by decide
/-- how a band lies: from, to, its runs' slice -/
abbrev BnS := Int × Int × Option Addr × Nat × Nat
def bandE : EL Tryz.prog BnS where
  enc := fun r => [.int .i64 r.1, .int .i64 r.2.1, .slice r.2.2.1 r.2.2.2.1 r.2.2.2.2]
  size := 3
  t := 89
  st := 65
  zero := .agg #[.int .i64 0, .int .i64 0, .slice none 0 0]
  bytes := 40
  len := fun _ => rfl
  one := fun x v hv => by simp at hv; rcases hv with rfl | rfl | rfl <;> rfl
  pos := by decide
  und := Tryz.underlying65
  info := by kernel_rfl
  zsize := rfl
  small := by decide
theorem int_cell {w : World} {b o : Nat} {l : List Int} (h : intE.At w (some ⟨b, o, none⟩) l) {k : Nat} {x : Int} (hk : l[k]? = some x) : w.cell? ⟨b, o + k, none⟩ = some (.int .i64 x) := by
  have := h.cellAt (j := 0) hk rfl
  simpa [intE] using this
theorem rect_cell {w : World} {b o : Nat} {l : List R4} (h : rectE.At w (some ⟨b, o, none⟩) l) {k : Nat} {r : R4} (hk : l[k]? = some r) :
    w.cell? ⟨b, o + k * 4, none⟩ = some (.int .i64 r.1) ∧ w.cell? ⟨b, o + k * 4 + 1, none⟩ = some (.int .i64 r.2.1) ∧ w.cell? ⟨b, o + k * 4 + 2, none⟩ = some (.int .i64 r.2.2.1) ∧ w.cell? ⟨b, o + k * 4 + 3, none⟩ = some (.int .i64 r.2.2.2) :=
  ⟨h.cellAt (j := 0) hk rfl, h.cellAt (j := 1) hk rfl, h.cellAt (j := 2) hk rfl, h.cellAt (j := 3) hk rfl⟩
theorem run_cell {w : World} {b o : Nat} {l : List Run} (h : runE.At w (some ⟨b, o, none⟩) l) {k : Nat} {r : Run} (hk : l[k]? = some r) :
    w.cell? ⟨b, o + k * 2, none⟩ = some (.int .i64 r.1) ∧ w.cell? ⟨b, o + k * 2 + 1, none⟩ = some (.int .i64 r.2) :=
  ⟨h.cellAt (j := 0) hk rfl, h.cellAt (j := 1) hk rfl⟩
theorem band_cell {w : World} {b o : Nat} {l : List BnS} (h : bandE.At w (some ⟨b, o, none⟩) l) {k : Nat} {r : BnS} (hk : l[k]? = some r) :
    w.cell? ⟨b, o + k * 3, none⟩ = some (.int .i64 r.1) ∧ w.cell? ⟨b, o + k * 3 + 1, none⟩ = some (.int .i64 r.2.1) ∧ w.cell? ⟨b, o + k * 3 + 2, none⟩ = some (.slice r.2.2.1 r.2.2.2.1 r.2.2.2.2) :=
  ⟨h.cellAt (j := 0) hk rfl, h.cellAt (j := 1) hk rfl, h.cellAt (j := 2) hk rfl⟩
end Go.Proofs.YtkjpcjmbhpfelaaGreat

/- slices.Equal at rectangles and at runs; Rows of the reference. -/
set_option linter.unusedVariables false
set_option linter.unusedSimpArgs false
namespace Go.Proofs.YtkjpcjmbhpfelaaGreat
open Go.RowKit Go.Par Go.Reg

set_option maxHeartbeats 1600000 in
theorem eqRun_any (l m : List Run) (A1 A2 : Option Addr) (c1 c2 n k : Nat) (w : World) (hn : l.length = n) (hk : m.length = k) (hb1 : n ≤ 17592186044416) (hb2 : k ≤ 17592186044416) (h1 : runE.At w A1 l) (h2 : runE.At w A2 m) :
    Calls Tryz.prog 48 #[.slice A1 n c1, .slice A2 k c2] w fun e w' => e = .returned (.bool (decide (l = m))) ∧ Ext w w' := by
  have HN := Lib.hid hn
  have HK := Lib.hid hk
  clear hn hk
  go_enter Tryz.func48, Tryz.ntmps48
  by_cases hnk : n = k
  · subst hnk
    have d1 : ((n : Int) == (n : Int)) = true := by simp
    go_wp2_with fail
    go_loopw [5, 13] (fun _ i wr => ∃ j : Nat, j ≤ n ∧ i = .int .i64 j ∧ Ext w wr ∧ Hid (l.take j = m.take j)) (fun _ i _ => n - (intOf i).toNat)
    case atStart => exact ⟨0, Nat.zero_le _, rfl, Ext.refl _, Lib.hid (by simp)⟩
    case round =>
      obtain ⟨j, hj, rfl, hE, HT⟩ := hrel
      by_cases hlt : j < n
      · have dj : ((j : Int) < (n : Int)) = True := eq_true (by omega)
        obtain ⟨⟨x0, x1⟩, hlx⟩ : ∃ q, l[j]? = some q := ⟨_, List.getElem?_eq_getElem (by rw [HN.out]; exact hlt)⟩
        obtain ⟨⟨y0, y1⟩, hly⟩ : ∃ q, m[j]? = some q := ⟨_, List.getElem?_eq_getElem (by rw [HK.out]; exact hlt)⟩
        obtain ⟨b, o, rfl⟩ := h1.addr hlx
        obtain ⟨b', o', rfl⟩ := h2.addr hly
        obtain ⟨e0, e1⟩ := run_cell h1 hlx
        obtain ⟨f0, f1⟩ := run_cell h2 hly
        replace e0 := hE.cell e0
        replace f0 := hE.cell f0
        replace e1 := hE.cell e1
        replace f1 := hE.cell f1
        dsimp only at e0 e1 f0 f1
        have HX := Lib.hid hlx
        have HY := Lib.hid hly
        clear hlx hly
        by_cases hxy : x0 = y0 ∧ x1 = y1
        · obtain ⟨rfl, rfl⟩ := hxy
          have HS := Lib.hid (show l.take (j + 1) = m.take (j + 1) from by
            rw [List.take_add_one, List.take_add_one, HX.out, HY.out, HT.out])
          go_wp2_with fail
          go_quiet (fail)
          go_wp2
          go_roundw
          case rel => exact ⟨j + 1, by omega, by go_num, hE.drewN _, HS⟩
          case measure => simp [intOf]; omega
        · have d2 : (decide (x0 = y0) && decide (x1 = y1)) = false := by
            rw [Bool.eq_false_iff]; intro e; apply hxy; simpa using e
          have d3 : (¬x0 = y0 ∨ ¬x1 = y1) = True := eq_true (by omega)
          have d4 : ((!decide (x0 = y0)) || (!decide (x1 = y1))) = true := by
            simpa using d3
          have HS := Lib.hid (show ¬ l = m from fun e => hxy (by
            have h1 := HX.out
            rw [e, HY.out] at h1
            injection h1 with h1
            simp only [Prod.mk.injEq] at h1
            exact ⟨h1.1.symm, h1.2.symm⟩))
          have HXY := Lib.hid hxy
          clear hxy
          go_wp2_with fail
          go_quiet (fail)
          go_wp2
          all_goals first
            | (go_ret; exact ⟨ret_eq (by rw [decide_eq_false HS.out]; rfl), hE.drewN _⟩)
            | (rename_i hh; exact absurd (by simpa using hh) HXY.out)
      · have HS := Lib.hid (show l = m from by
          have := HT.out
          rwa [List.take_of_length_le (by rw [HN.out]; omega), List.take_of_length_le (by rw [HK.out]; omega)] at this)
        have d3 : ((j : Int) < (n : Int)) = False := eq_false (by omega)
        go_wp2
        go_ret
        exact ⟨ret_eq (by rw [decide_eq_true HS.out]; rfl), hE⟩
  · have d1 : ((n : Int) == (k : Int)) = false := by simp; omega
    have HS := Lib.hid (show ¬ l = m from fun e => hnk (by rw [← HN.out, ← HK.out, e]))
    clear hnk
    go_wp2
    go_ret
    exact ⟨ret_eq (by rw [decide_eq_false HS.out]; rfl), Ext.refl _⟩
set_option maxHeartbeats 1600000 in
theorem Rows_any (l m : List R4) (A1 A2 : Option Addr) (c1 c2 n k : Nat) (w : World) (hn : l.length = n) (hk : m.length = k) (hb1 : n ≤ 17592186044416) (hb2 : k ≤ 17592186044416) (h1 : rectE.At w A1 l) (h2 : rectE.At w A2 m) :
    Calls Tryz.prog 11 #[.slice A1 n c1, .slice A2 k c2] w fun e w' => e = .returned (.bool (decide (l = m))) ∧ Ext w w' := by
  have HN := Lib.hid hn
  have HK := Lib.hid hk
  clear hn hk
  go_enter Tryz.func11, Tryz.ntmps11
  by_cases hnk : n = k
  · subst hnk
    have d1 : ((n : Int) == (n : Int)) = true := by simp
    go_wp2_with fail
    go_loopw [5] (fun i wr => ∃ j : Nat, j ≤ n ∧ i = .int .i64 j ∧ Ext w wr ∧ Hid (l.take j = m.take j)) (fun i _ => n - (intOf i).toNat)
    case atStart => exact ⟨0, Nat.zero_le _, rfl, Ext.refl _, Lib.hid (by simp)⟩
    case round =>
      obtain ⟨j, hj, rfl, hE, HT⟩ := hrel
      by_cases hlt : j < n
      · have dj : ((j : Int) < (n : Int)) = True := eq_true (by omega)
        obtain ⟨⟨x0, x1, x2, x3⟩, hlx⟩ : ∃ q, l[j]? = some q := ⟨_, List.getElem?_eq_getElem (by rw [HN.out]; exact hlt)⟩
        obtain ⟨⟨y0, y1, y2, y3⟩, hly⟩ : ∃ q, m[j]? = some q := ⟨_, List.getElem?_eq_getElem (by rw [HK.out]; exact hlt)⟩
        obtain ⟨b, o, rfl⟩ := h1.addr hlx
        obtain ⟨b', o', rfl⟩ := h2.addr hly
        obtain ⟨e0, e1, e2, e3⟩ := rect_cell h1 hlx
        obtain ⟨f0, f1, f2, f3⟩ := rect_cell h2 hly
        replace e0 := hE.cell e0
        replace f0 := hE.cell f0
        replace e1 := hE.cell e1
        replace f1 := hE.cell f1
        replace e2 := hE.cell e2
        replace f2 := hE.cell f2
        replace e3 := hE.cell e3
        replace f3 := hE.cell f3
        dsimp only at e0 e1 e2 e3 f0 f1 f2 f3
        have HX := Lib.hid hlx
        have HY := Lib.hid hly
        clear hlx hly
        by_cases hxy : x0 = y0 ∧ x1 = y1 ∧ x2 = y2 ∧ x3 = y3
        · obtain ⟨rfl, rfl, rfl, rfl⟩ := hxy
          have HS := Lib.hid (show l.take (j + 1) = m.take (j + 1) from by
            rw [List.take_add_one, List.take_add_one, HX.out, HY.out, HT.out])
          go_wp2_with fail
          go_quiet (fail)
          go_wp2
          go_roundw
          case rel => exact ⟨j + 1, by omega, by go_num, hE.drewN _, HS⟩
          case measure => simp [intOf]; omega
        · have d2 : (decide (x0 = y0) && (decide (x1 = y1) && (decide (x2 = y2) && decide (x3 = y3)))) = false := by
            rw [Bool.eq_false_iff]; intro e; apply hxy; simpa using e
          have d3 : (¬x0 = y0 ∨ ¬x1 = y1 ∨ ¬x2 = y2 ∨ ¬x3 = y3) = True := eq_true (by omega)
          have d4 : ((!decide (x0 = y0)) || ((!decide (x1 = y1)) || ((!decide (x2 = y2)) || (!decide (x3 = y3))))) = true := by
            simpa using d3
          have HS := Lib.hid (show ¬ l = m from fun e => hxy (by
            have h1 := HX.out
            rw [e, HY.out] at h1
            injection h1 with h1
            simp only [Prod.mk.injEq] at h1
            exact ⟨h1.1.symm, h1.2.1.symm, h1.2.2.1.symm, h1.2.2.2.symm⟩))
          have HXY := Lib.hid hxy
          clear hxy
          go_wp2_with fail
          go_quiet (fail)
          go_wp2
          all_goals first
            | (go_ret; exact ⟨ret_eq (by rw [decide_eq_false HS.out]; rfl), hE.drewN _⟩)
            | (rename_i hh; exact absurd (by simpa using hh) HXY.out)
      · have HS := Lib.hid (show l = m from by
          have := HT.out
          rwa [List.take_of_length_le (by rw [HN.out]; omega), List.take_of_length_le (by rw [HK.out]; omega)] at this)
        have d3 : ((j : Int) < (n : Int)) = False := eq_false (by omega)
        go_wp2
        go_ret
        exact ⟨ret_eq (by rw [decide_eq_true HS.out]; rfl), hE⟩
  · have d1 : ((n : Int) == (k : Int)) = false := by simp; omega
    have HS := Lib.hid (show ¬ l = m from fun e => hnk (by rw [← HN.out, ← HK.out, e]))
    clear hnk
    go_wp2
    go_ret
    exact ⟨ret_eq (by rw [decide_eq_false HS.out]; rfl), Ext.refl _⟩
end Go.Proofs.YtkjpcjmbhpfelaaGreat

/- slices.ContainsFunc at rectangles and at runs; within, Contains. -/
set_option linter.unusedVariables false
set_option linter.unusedSimpArgs false
namespace Go.Proofs.YtkjpcjmbhpfelaaGreat
open Go.RowKit Go.Par Go.Reg

def firstIdx {α : Type} (p : α → Bool) (l : List α) : Int := match l.findIdx? p with | some i => i | none => -1
theorem firstIdx_some {α : Type} {p : α → Bool} {l : List α} {k : Nat} {q : α} (hk : l[k]? = some q) (hp : p q = true) (hno : ∀ j, j < k → ∀ q, l[j]? = some q → p q = false) : firstIdx p l = k := by
  unfold firstIdx
  have hlt := (List.getElem?_eq_some_iff.1 hk).1
  have : l.findIdx? p = some k := List.findIdx?_eq_some_iff_getElem.2 ⟨hlt, by rw [(List.getElem?_eq_some_iff.1 hk).2]; exact hp, fun j hj => by
    have := hno j hj _ (List.getElem?_eq_getElem (by omega)); simp [this]⟩
  rw [this]
theorem firstIdx_none {α : Type} {p : α → Bool} {l : List α} (hno : ∀ (j : Nat) (q : α), l[j]? = some q → p q = false) : firstIdx p l = -1 := by
  unfold firstIdx
  have : l.findIdx? p = none := List.findIdx?_eq_none_iff.2 fun x hx => by
    obtain ⟨j, hj⟩ := List.mem_iff_getElem?.1 hx
    exact hno j x hj
  rw [this]
theorem firstIdx_ge {α : Type} (p : α → Bool) (l : List α) : (0 ≤ firstIdx p l) = (l.any p = true) := by
  unfold firstIdx
  cases h : l.findIdx? p with
  | none =>
    simp only [List.findIdx?_eq_none_iff] at h
    simp only [List.any_eq_true, eq_iff_iff]
    exact ⟨fun h0 => absurd h0 (by decide), fun ⟨x, hx, hp⟩ => by rw [h x hx] at hp; cases hp⟩
  | some i =>
    have := List.findIdx?_eq_some_iff_getElem.1 h
    obtain ⟨hi, hp, _⟩ := this
    simp only [List.any_eq_true, eq_iff_iff]
    exact ⟨fun _ => ⟨_, List.getElem_mem hi, hp⟩, fun _ => Int.natCast_nonneg _⟩
set_option maxHeartbeats 800000 in
theorem idxRect_any (f : FuncId) (cap : Array Value) (p : R4 → Bool) (l : List R4) (A : Option Addr) (c : Nat) (w : World) (hc : l.length ≤ 9223372036854775807) (hl : rectE.At w A l)
    (hcall : ∀ args w, (callFunc f args).run Tryz.prog w = .ok (.enter f args) w)
    (hf : ∀ x0 x1 x2 x3 w1, Ext w w1 → (x0, x1, x2, x3) ∈ l → Calls Tryz.prog f (#[.agg #[.int .i64 x0, .int .i64 x1, .int .i64 x2, .int .i64 x3]] ++ cap) w1 fun e w' => e = .returned (.bool (p (x0, x1, x2, x3))) ∧ Ext w1 w') :
    Calls Tryz.prog 50 #[.slice A l.length c, .func (.func f) #[] cap] w fun e w' => e = .returned (.int .i64 (firstIdx p l)) ∧ Ext w w' := by
  obtain ⟨n, hn⟩ : ∃ n, n = l.length := ⟨_, rfl⟩
  rw [← hn]
  have HN := Lib.hid hn
  rw [← hn] at hc
  clear hn
  have HF := Lib.hid hf
  clear hf
  go_enter Tryz.func50, Tryz.ntmps50
  go_wp2_with fail
  go_loopw [5, 8] (fun _ i wr => ∃ k : Nat, k ≤ n ∧ i = .int .i64 k ∧ Ext w wr ∧ ∀ j, j < k → ∀ q, l[j]? = some q → p q = false) (fun _ i _ => n - (intOf i).toNat)
  case atStart => exact ⟨0, Nat.zero_le _, rfl, Ext.refl _, fun j hj => by omega⟩
  case round =>
    obtain ⟨k, hk, rfl, hE, hno⟩ := hrel
    have Hno := Lib.hid hno
    clear hno
    by_cases hlt : k < n
    · obtain ⟨⟨x0, x1, x2, x3⟩, hlk⟩ : ∃ q, l[k]? = some q := ⟨_, List.getElem?_eq_getElem (by rw [← HN.out]; exact hlt)⟩
      obtain ⟨b, o, rfl⟩ := hl.addr hlk
      obtain ⟨e0, e1, e2, e3⟩ := rect_cell hl hlk
      replace e0 := hE.cell e0
      replace e1 := hE.cell e1
      replace e2 := hE.cell e2
      replace e3 := hE.cell e3
      dsimp only at e0 e1 e2 e3
      have HL := Lib.hid hlk
      clear hlk
      go_wp2_with fail
      refine (HF.out x0 x1 x2 x3 _ hE (List.mem_of_getElem? HL.out)).mono ?_
      rintro e w1 ⟨rfl, hE1⟩
      have hE2 := hE.trans hE1
      cases hp : p (x0, x1, x2, x3)
      · go_wp2
        go_roundw
        case rel =>
          refine ⟨k + 1, by omega, by go_num, hE2, fun j hj q hq => ?_⟩
          by_cases hjk : j = k
          · subst hjk; rw [HL.out] at hq; injection hq with hq; rw [← hq, hp]
          · exact Hno.out j (by omega) q hq
        case measure => simp [intOf]; omega
      · go_wp2
        go_ret
        exact ⟨ret_eq (by rw [firstIdx_some HL.out hp Hno.out]; rfl), hE2⟩
    · go_wp2
      go_ret
      have e : firstIdx p l = -1 := firstIdx_none fun j q hq => Hno.out j (by have := (List.getElem?_eq_some_iff.1 hq).1; rw [← HN.out] at this; omega) q hq
      exact ⟨ret_eq (by rw [e]; rfl), hE⟩
theorem hasRect_any (f : FuncId) (cap : Array Value) (p : R4 → Bool) (l : List R4) (A : Option Addr) (c : Nat) (w : World) (hc : l.length ≤ 9223372036854775807) (hl : rectE.At w A l)
    (hcall : ∀ args w, (callFunc f args).run Tryz.prog w = .ok (.enter f args) w)
    (hf : ∀ x0 x1 x2 x3 w1, Ext w w1 → (x0, x1, x2, x3) ∈ l → Calls Tryz.prog f (#[.agg #[.int .i64 x0, .int .i64 x1, .int .i64 x2, .int .i64 x3]] ++ cap) w1 fun e w' => e = .returned (.bool (p (x0, x1, x2, x3))) ∧ Ext w1 w') :
    Calls Tryz.prog 34 #[.slice A l.length c, .func (.func f) #[] cap] w fun e w' => e = .returned (.bool (l.any p)) ∧ Ext w w' := by
  have H := Lib.hid (idxRect_any f cap p l A c w hc hl hcall hf)
  clear hc hl hf hcall
  generalize l.length = n at *
  go_enter Tryz.func34, Tryz.ntmps34
  go_wp2_with fail
  refine H.out.mono ?_
  rintro e w1 ⟨rfl, hE⟩
  go_wp2
  go_ret
  exact ⟨ret_eq (by simp only [firstIdx_ge]; simp), hE⟩
set_option maxHeartbeats 800000 in
theorem idxRun_any (f : FuncId) (cap : Array Value) (p : Run → Bool) (l : List Run) (A : Option Addr) (c : Nat) (w : World) (hc : l.length ≤ 9223372036854775807) (hl : runE.At w A l)
    (hcall : ∀ args w, (callFunc f args).run Tryz.prog w = .ok (.enter f args) w)
    (hf : ∀ x0 x1 w1, Ext w w1 → (x0, x1) ∈ l → Calls Tryz.prog f (#[.agg #[.int .i64 x0, .int .i64 x1]] ++ cap) w1 fun e w' => e = .returned (.bool (p (x0, x1))) ∧ Ext w1 w') :
    Calls Tryz.prog 102 #[.slice A l.length c, .func (.func f) #[] cap] w fun e w' => e = .returned (.int .i64 (firstIdx p l)) ∧ Ext w w' := by
  obtain ⟨n, hn⟩ : ∃ n, n = l.length := ⟨_, rfl⟩
  rw [← hn]
  have HN := Lib.hid hn
  rw [← hn] at hc
  clear hn
  have HF := Lib.hid hf
  clear hf
  go_enter Tryz.func102, Tryz.ntmps102
  go_wp2_with fail
  go_loopw [5, 8] (fun _ i wr => ∃ k : Nat, k ≤ n ∧ i = .int .i64 k ∧ Ext w wr ∧ ∀ j, j < k → ∀ q, l[j]? = some q → p q = false) (fun _ i _ => n - (intOf i).toNat)
  case atStart => exact ⟨0, Nat.zero_le _, rfl, Ext.refl _, fun j hj => by omega⟩
  case round =>
    obtain ⟨k, hk, rfl, hE, hno⟩ := hrel
    have Hno := Lib.hid hno
    clear hno
    by_cases hlt : k < n
    · obtain ⟨⟨x0, x1⟩, hlk⟩ : ∃ q, l[k]? = some q := ⟨_, List.getElem?_eq_getElem (by rw [← HN.out]; exact hlt)⟩
      obtain ⟨b, o, rfl⟩ := hl.addr hlk
      obtain ⟨e0, e1⟩ := run_cell hl hlk
      replace e0 := hE.cell e0
      replace e1 := hE.cell e1
      dsimp only at e0 e1
      have HL := Lib.hid hlk
      clear hlk
      go_wp2_with fail
      refine (HF.out x0 x1 _ hE (List.mem_of_getElem? HL.out)).mono ?_
      rintro e w1 ⟨rfl, hE1⟩
      have hE2 := hE.trans hE1
      cases hp : p (x0, x1)
      · go_wp2
        go_roundw
        case rel =>
          refine ⟨k + 1, by omega, by go_num, hE2, fun j hj q hq => ?_⟩
          by_cases hjk : j = k
          · subst hjk; rw [HL.out] at hq; injection hq with hq; rw [← hq, hp]
          · exact Hno.out j (by omega) q hq
        case measure => simp [intOf]; omega
      · go_wp2
        go_ret
        exact ⟨ret_eq (by rw [firstIdx_some HL.out hp Hno.out]; rfl), hE2⟩
    · go_wp2
      go_ret
      have e : firstIdx p l = -1 := firstIdx_none fun j q hq => Hno.out j (by have := (List.getElem?_eq_some_iff.1 hq).1; rw [← HN.out] at this; omega) q hq
      exact ⟨ret_eq (by rw [e]; rfl), hE⟩
theorem hasRun_any (f : FuncId) (cap : Array Value) (p : Run → Bool) (l : List Run) (A : Option Addr) (c : Nat) (w : World) (hc : l.length ≤ 9223372036854775807) (hl : runE.At w A l)
    (hcall : ∀ args w, (callFunc f args).run Tryz.prog w = .ok (.enter f args) w)
    (hf : ∀ x0 x1 w1, Ext w w1 → (x0, x1) ∈ l → Calls Tryz.prog f (#[.agg #[.int .i64 x0, .int .i64 x1]] ++ cap) w1 fun e w' => e = .returned (.bool (p (x0, x1))) ∧ Ext w1 w') :
    Calls Tryz.prog 84 #[.slice A l.length c, .func (.func f) #[] cap] w fun e w' => e = .returned (.bool (l.any p)) ∧ Ext w w' := by
  have H := Lib.hid (idxRun_any f cap p l A c w hc hl hcall hf)
  clear hc hl hf hcall
  generalize l.length = n at *
  go_enter Tryz.func84, Tryz.ntmps84
  go_wp2_with fail
  refine H.out.mono ?_
  rintro e w1 ⟨rfl, hE⟩
  go_wp2
  go_ret
  exact ⟨ret_eq (by simp only [firstIdx_ge]; simp), hE⟩
set_option maxHeartbeats 800000 in
theorem withinC_any (f t x : Int) (b : Nat) (w : World) (hb : w.cell? ⟨b, 0, none⟩ = some (.int .i64 x)) :
    Calls Tryz.prog 85 #[.agg #[.int .i64 f, .int .i64 t], .pointer (some ⟨b, 0, none⟩)] w fun e w' => e = .returned (.bool (decide (f ≤ x) && decide (x < t))) ∧ Ext w w' := by
  go_enter Tryz.func85, Tryz.ntmps85
  go_wp2
  all_goals (go_ret; exact ⟨ret_eq (by simp [*] <;> omega), Ext.alloc _ _⟩)
set_option maxRecDepth 100000 in
set_option maxHeartbeats 800000 in
theorem within_any (l : List Run) (A : Option Addr) (n c : Nat) (x : Int) (w : World) (hn : l.length = n) (hc : n ≤ 17592186044416) (hl : runE.At w A l) :
    Calls Tryz.prog 68 #[.slice A n c, .int .i64 x] w fun e w' => e = .returned (.bool (inRuns l x)) ∧ Ext w w' := by
  have HC := Lib.hid (fun (W : World) (b : Nat) (k : Ext w W) (hb : W.cell? ⟨b, 0, none⟩ = some (.int .i64 x)) => hasRun_any 85 #[.pointer (some ⟨b, 0, none⟩)] (fun r => decide (r.1 ≤ x) && decide (x < r.2)) l A c W (by omega) (hl.ext k) (fun _ _ => rfl) (fun x0 x1 w1 k1 _ => withinC_any x0 x1 x b w1 (k1.cell hb)))
  rw [hn] at HC
  clear hn hl
  go_enter Tryz.func68, Tryz.ntmps68
  have hE := Ext.alloc w (.cells #[.int .i64 x] 3)
  have b2 := Box.new w 3 #[.int .i64 x]
  have hb := b2.cell 0
  go_wp2_with fail
  refine (HC.out _ _ hE hb).mono ?_
  rintro e w1 ⟨rfl, hE1⟩
  go_wp2
  go_ret
  exact ⟨rfl, hE.trans hE1⟩
set_option maxHeartbeats 800000 in
theorem pContainsC_any (a b c d x y : Int) (bx bb : Nat) (w : World) (hb : w.cell? ⟨bx, 0, none⟩ = some (.int .i64 x)) (hb2 : w.cell? ⟨bb, 0, none⟩ = some (.int .i64 y)) :
    Calls Tryz.prog 35 #[.agg #[.int .i64 a, .int .i64 b, .int .i64 c, .int .i64 d], .pointer (some ⟨bx, 0, none⟩), .pointer (some ⟨bb, 0, none⟩)] w fun e w' => e = .returned (.bool (hasR (a, b, c, d) x y)) ∧ Ext w w' := by
  have H := Lib.hid (fun W => pHas_any a b c d x y W)
  rw [← has_eq] at H
  have hE := Ext.alloc w (.cells #[.int .i64 a, .int .i64 b, .int .i64 c, .int .i64 d] 34)
  have k1 := hE.cell hb
  have k2 := hE.cell hb2
  clear hb hb2
  go_enter Tryz.func35, Tryz.ntmps35
  go_wp2_with fail
  refine (H.out _).mono ?_
  rintro e w1 ⟨rfl, hE1⟩
  go_wp2
  go_ret
  exact ⟨rfl, hE.trans hE1⟩
set_option maxRecDepth 100000 in
set_option maxHeartbeats 800000 in
theorem pContains_any (l : List R4) (A : Option Addr) (n c : Nat) (x y : Int) (w : World) (hn : l.length = n) (hc : n ≤ 17592186044416) (hl : rectE.At w A l) :
    Calls Tryz.prog 13 #[.slice A n c, .int .i64 x, .int .i64 y] w fun e w' => e = .returned (.bool (inL l x y)) ∧ Ext w w' := by
  have HC := Lib.hid (fun (W : World) (b b' : Nat) (k : Ext w W) (hb : W.cell? ⟨b, 0, none⟩ = some (.int .i64 x)) (hb' : W.cell? ⟨b', 0, none⟩ = some (.int .i64 y)) => hasRect_any 35 #[.pointer (some ⟨b, 0, none⟩), .pointer (some ⟨b', 0, none⟩)] (fun r => hasR r x y) l A c W (by omega) (hl.ext k) (fun _ _ => rfl) (fun x0 x1 x2 x3 w1 k1 _ => pContainsC_any x0 x1 x2 x3 x y b b' w1 (k1.cell hb) (k1.cell hb')))
  rw [hn] at HC
  clear hn hl
  go_enter Tryz.func13, Tryz.ntmps13
  have hE := (Ext.alloc w (.cells #[.int .i64 x] 3)).trans (Ext.alloc _ (.cells #[.int .i64 y] 3))
  have hb := ((Box.new w 3 #[.int .i64 x]).alloc (.cells #[.int .i64 y] 3)).cell 0
  have hb2 := (Box.at1 (w := w) (o := .cells #[.int .i64 x] 3) (t := 3) (cs := #[.int .i64 y])).cell 0
  go_wp2_with fail
  refine (HC.out _ _ _ hE hb hb2).mono ?_
  rintro e w1 ⟨rfl, hE1⟩
  go_wp2
  go_ret
  exact ⟨rfl, hE.trans hE1⟩
end Go.Proofs.YtkjpcjmbhpfelaaGreat

/- Maps from numbers to true, made by the call: stored into, gone through, emptied. -/
set_option linter.unusedVariables false
set_option linter.unusedSimpArgs false
namespace Go.Par
open Go.RowKit Go.Maps Go.MapKept Go.ChangeMaps

theorem Ext.grown0 {w w' : World} (he : Ext w w') : w.grownBy w' none := ⟨Below.os he, Below.tape he, Below.output he, Below.size he, fun k hk _ => Below.block he k hk⟩
/-- what turns in blocks made since w0 does not show in what w0 had -/
theorem Ext.grownAt {w0 w w' : World} {r : Option Nat} (h : Ext w0 w) (hg : w.grownBy w' r) (hr : ∀ j, r = some j → w0.heap.size ≤ j) : Ext w0 w' :=
  ⟨hg.os.trans (Below.os h), hg.tape.trans (Below.tape h), hg.output.trans (Below.output h), Nat.le_trans (Below.size h) hg.size, fun i hi =>
    (hg.block i (Nat.lt_of_lt_of_le hi (Below.size h)) (fun e => by have := hr i e.symm; omega)).trans (Below.block h i hi)⟩
section
variable {H : Type} {P : Program} {k : TypeId} {R : Value → Option (DataW H × List MemPlace)} {w w' : World} {b n r cnt : Nat} {D : DataW H} {left : Lit → Bool}
theorem mapExt (h : w.ownsMap P k R b n D) (he : Ext w w') : w'.ownsMap P k R b n D := h.kept he.grown0 (by simp)
theorem rangesExt (h : w.ranges P k R b r n D left cnt) (he : Ext w w') : w'.ranges P k R b r n D left cnt := h.kept he.grown0 (by simp) (by simp)
/-- clear(m) -/
theorem run_clear_own {t e : TypeId} (h : w.ownsMap P k R b n D) (ht : P.underlying t = some (.map k e)) : ∃ w', (∀ ty, (Builtin.clear_ #[t] ty #[.map (some b)]).run P w = .ok (.tuple #[]) w') ∧ w.grownBy w' (some b) := by
  obtain ⟨es, clock, hb, F, hs, rfl⟩ := h
  refine ⟨_, fun ty => by simp [Builtin.clear_, run_underlying ht, MapKept.run_getObj_map hb, MapKept.run_setObj_map _ hb, Result.andThen]; rfl, ?_⟩
  exact ⟨rfl, rfl, rfl, by simp, fun i hi hne => (heap_set hb).2 i (fun e => hne (by rw [e]))⟩
theorem own_ne_map {α : Type} {E : EL P α} {base : Nat} {v : Value} {l : List α} (h : E.Own w base v l) (hr : w.ranges P k R b r n D left cnt) : v.ownBlock ≠ some b ∧ v.ownBlock ≠ some r := by
  obtain ⟨es, clock, since, seen, c0, hb, _, _, _, hit, _⟩ := hr
  refine ⟨fun e => ?_, fun e => ?_⟩
  · obtain ⟨_, cur, hc⟩ := ownBlock_cells h e.symm
    rw [hb] at hc; cases hc
  · obtain ⟨_, cur, hc⟩ := ownBlock_cells h e.symm
    rw [hit] at hc; cases hc
/-- the keys met so far -/
def CollI (D0 : DataW H) (left : Lit → Bool) (ss : List Int) : Prop := ss.Nodup ∧ ∀ x, x ∈ ss ↔ (has D0 (.int .i64 x) = true ∧ left (.int .i64 x) = false)
theorem CollI.start (D0 : DataW H) : CollI D0 (has D0) [] := ⟨List.nodup_nil, fun x => by cases has D0 (.int .i64 x) <;> simp⟩
theorem CollI.step {D0 : DataW H} {ss : List Int} (h : CollI D0 left ss) {x : Int} {y : DataW H} (hlk : left (.int .i64 x) = true) (hat : ∀ zd, D0.atKey (.int .i64 x) zd = y) : CollI D0 (fun z => left z && !z.sameKey (.int .i64 x)) (ss ++ [x]) := by
  have hhas : has D0 (.int .i64 x) = true := has_true_of_atKey hat
  have hnew : x ∉ ss := fun hx => by have := ((h.2 x).1 hx).2; rw [hlk] at this; cases this
  refine ⟨List.nodup_append.2 ⟨h.1, by simp, fun a ha b hb => by simp at hb; subst hb; exact fun e => hnew (e ▸ ha)⟩, fun y => ?_⟩
  by_cases hy : y = x
  · subst hy; simp [hhas, Lit.sameKey]
  · simp [h.2 y, hy, Lit.sameKey]
theorem CollI.end {D0 : DataW H} {ss : List Int} (h : CollI D0 left ss) (hl : ∀ kl, left kl = false) : ss.Nodup ∧ ∀ x, x ∈ ss ↔ has D0 (.int .i64 x) = true :=
  ⟨h.1, fun x => by rw [h.2]; simp [hl]⟩
/-- the map that holds true at the numbers of l -/
def setI (l : List Int) : DataW H := setOf (.lit (.bool true)) (l.map (Lit.int .i64))
theorem setI_nil : (setI [] : DataW H) = .map [] := rfl
theorem setI_snoc (l : List Int) (x : Int) : (setI (l ++ [x]) : DataW H) = (setI l).put (.int .i64 x) (.lit (.bool true)) := by
  unfold setI
  rw [List.map_append]
  exact setOf_snoc _ _ _
theorem setI_has (l : List Int) (x : Int) : has (setI l : DataW H) (.int .i64 x) = true ↔ x ∈ l := by
  unfold setI
  rw [has_setOf _ _ _ (fun y hy => by obtain ⟨z, _, rfl⟩ := List.mem_map.1 hy; trivial), List.any_eq_true]
  constructor
  · rintro ⟨y, hy, hs⟩
    obtain ⟨z, hz, rfl⟩ := List.mem_map.1 hy
    have : z = x := by simpa [Lit.sameKey] using hs
    rw [← this]; exact hz
  · intro hx
    exact ⟨_, List.mem_map.2 ⟨x, hx, rfl⟩, by simp [Lit.sameKey]⟩
theorem setI_size (l : List Int) : size (setI l : DataW H) ≤ l.length := by
  unfold setI
  have key : ∀ (l : List Lit) (m : DataW H), Tidy m → (∀ x ∈ l, WideAt.IsKeyLit x) → size (l.foldl (fun m x => m.put x (.lit (.bool true))) m) ≤ size m + l.length := fun l => by
    induction l with
    | nil => intro m _ _; exact Nat.le_refl _
    | cons x l ih =>
      intro m hm hk
      have h1 := ih (m.put x (.lit (.bool true))) (hm.put (hk x List.mem_cons_self) _) fun y hy => hk y (List.mem_cons_of_mem _ hy)
      have h2 : size (m.put x (.lit (.bool true))) ≤ size m + 1 := by
        rw [Go.Maps.size_put hm]
        split <;> omega
      rw [List.foldl_cons, List.length_cons]
      omega
  have := key (l.map (Lit.int .i64)) (.map []) tidy_empty (fun y hy => by obtain ⟨z, _, rfl⟩ := List.mem_map.1 hy; trivial)
  rw [List.length_map] at this
  have e : size (.map [] : DataW H) = 0 := rfl
  rw [e, Nat.zero_add] at this
  exact this
end
end Go.Par
