/- tile.Assemble. -/
import Derived.Test.YtefdheoalonbaaaSplit
import Derived.Test.YtefdheoalonbaaaAsmLaw
set_option linter.unusedVariables false
set_option linter.unusedSimpArgs false
namespace Go.Proofs.Ytefdheoalonbaaa
open Go.RowKit Go.Par

theorem pix_cellsE (l : List P4) {k : Nat} {p : P4} {j : Nat} {v : Value} (h : l[k]? = some p) (hv : (pixE.enc p)[j]? = some v) : (pixE.cells l)[k * 4 + j]? = some v := pixE.cells_at h hv
theorem pixOwn_set {w : World} {B g n cap k : Nat} {l : List P4} (h : pixE.Own w B (.slice (some ⟨g, 0, none⟩) n cap) l) (p : P4) :
    pixE.Own ((((w.setCell ⟨g, k * 4, none⟩ (.int .u8 p.1)).setCell ⟨g, k * 4 + 1, none⟩ (.int .u8 p.2.1)).setCell ⟨g, k * 4 + 2, none⟩ (.int .u8 p.2.2.1)).setCell ⟨g, k * 4 + 3, none⟩ (.int .u8 p.2.2.2)) B (.slice (some ⟨g, 0, none⟩) n cap) (l.set k p) := by
  obtain ⟨cur, hl, hb, hg, hcap, hm, hs, hc⟩ := h.opened
  have hs' : cur.size = cap * 4 := hs
  refine EL.Own.mk (by rw [List.length_set]; exact hl) hb ((((hg.set (k * 4) _).set (k * 4 + 1) _).set (k * 4 + 2) _).set (k * 4 + 3) _) hcap hm (by simp only [Array.size_setIfInBounds]; exact hs) fun j v hv => ?_
  obtain ⟨i, o, x, hx, hv2, rfl, ho⟩ := pixE.cells_at' hv
  have ho4 : o < 4 := ho
  have hil := (List.getElem?_eq_some_iff.1 hx).1
  rw [List.length_set] at hil
  have e4 : pixE.size = 4 := rfl
  rw [e4]
  simp only [Array.getElem?_setIfInBounds, Array.size_setIfInBounds]
  by_cases hik : k = i
  · subst hik
    rw [List.getElem?_set_self hil] at hx
    injection hx with hx
    subst hx
    have hsz : k * 4 + 4 ≤ cur.size := by rw [hs']; omega
    rcases (by omega : o = 0 ∨ o = 1 ∨ o = 2 ∨ o = 3) with rfl | rfl | rfl | rfl
    · have : v = .int .u8 p.1 := by simpa [pixE] using hv2.symm
      subst this
      rw [if_neg (by omega), if_neg (by omega), if_neg (by omega), if_pos (by omega), if_pos (by omega)]
    · have : v = .int .u8 p.2.1 := by simpa [pixE] using hv2.symm
      subst this
      rw [if_neg (by omega), if_neg (by omega), if_pos (by omega), if_pos (by omega)]
    · have : v = .int .u8 p.2.2.1 := by simpa [pixE] using hv2.symm
      subst this
      rw [if_neg (by omega), if_pos (by omega), if_pos (by omega)]
    · have : v = .int .u8 p.2.2.2 := by simpa [pixE] using hv2.symm
      subst this
      rw [if_pos (by omega), if_pos (by omega)]
  · rw [List.getElem?_set_ne hik] at hx
    rw [if_neg (by omega), if_neg (by omega), if_neg (by omega), if_neg (by omega)]
    exact hc _ _ (pixE.cells_at hx hv2)
theorem pixOwn_cells {w : World} {B g n cap k : Nat} {l : List P4} (h : pixE.Own w B (.slice (some ⟨g, 0, none⟩) n cap) l) (hk : k < n) : ∃ a b c d, w.cell? ⟨g, k * 4, none⟩ = some a ∧ w.cell? ⟨g, k * 4 + 1, none⟩ = some b ∧ w.cell? ⟨g, k * 4 + 2, none⟩ = some c ∧ w.cell? ⟨g, k * 4 + 3, none⟩ = some d := by
  obtain ⟨cur, hl, hb, hg, hcap, hm, hs, hc⟩ := h.opened
  have hs' : cur.size = cap * 4 := hs
  rw [hg.cell, hg.cell, hg.cell, hg.cell]
  exact ⟨_, _, _, _, Array.getElem?_eq_getElem (by omega), Array.getElem?_eq_getElem (by omega), Array.getElem?_eq_getElem (by omega), Array.getElem?_eq_getElem (by omega)⟩
theorem pixOwn_frozen {w : World} {B g n cap i : Nat} {l : List P4} (h : pixE.Own w B (.slice (some ⟨g, 0, none⟩) n cap) l) : w.frozen? ⟨g, i, none⟩ = false := by
  obtain ⟨cur, hl, hb, hg, _⟩ := h.opened
  exact hg.frozen i
set_option maxHeartbeats 800000 in
theorem AsmEmpty_any (x0 y0 x1 y1 : Int) (A : Option Addr) (c n : Nat) (w : World) (hem : rectEmptyS (x0, y0, x1, y1) = true) :
    Calls Try.prog 27 #[.agg #[.int .i64 x0, .int .i64 y0, .int .i64 x1, .int .i64 y1], .slice A n c] w fun e w' => e = .returned (.tuple #[.agg #[.int .i64 0, .int .i64 0, .int .i64 0, .int .i64 0, .slice none 0 0], .int .i64 6]) ∧ Ext w w' := by
  have HV := Lib.hid (fun W => pEmpty_any x0 y0 x1 y1 W)
  rw [hem] at HV
  clear hem
  go_enter Try.func27, Try.ntmps27
  have b4 := Box.at1 (w := w) (o := .cells #[.int .i64 x0, .int .i64 y0, .int .i64 x1, .int .i64 y1] 23) (t := 34) (cs := #[.int .i64 0, .int .i64 0, .int .i64 0, .int .i64 0, .slice none 0 0])
  have hE := (Ext.alloc w (.cells #[.int .i64 x0, .int .i64 y0, .int .i64 x1, .int .i64 y1] 23)).trans (Ext.alloc _ (.cells #[.int .i64 0, .int .i64 0, .int .i64 0, .int .i64 0, .slice none 0 0] 34))
  go_wp2_with fail
  refine (HV.out _).mono ?_
  rintro e w1 ⟨rfl, hE1⟩
  replace b4 := b4.ext hE1
  have c4 := b4.cell
  have f4 := b4.frozen
  go_wp2
  exact bodyPost_ret (v := .tuple #[.agg #[.int .i64 0, .int .i64 0, .int .i64 0, .int .i64 0, .slice none 0 0], .int .i64 6]) (by simp [results, Try.results27, go_sem, List.size_toArray, c4, f4]) rfl ⟨rfl, (hE.trans hE1).set5 (by omega) _ _ _ _ _⟩
set_option maxHeartbeats 800000 in
theorem AsmLimit_any (x0 y0 x1 y1 : Int) (A : Option Addr) (c n : Nat) (w : World) (hem : rectEmptyS (x0, y0, x1, y1) = false) (har : 65536 < areaR (x0, y0, x1, y1)) :
    Calls Try.prog 27 #[.agg #[.int .i64 x0, .int .i64 y0, .int .i64 x1, .int .i64 y1], .slice A n c] w fun e w' => e = .returned (.tuple #[.agg #[.int .i64 0, .int .i64 0, .int .i64 0, .int .i64 0, .slice none 0 0], .int .i64 5]) ∧ Ext w w' := by
  have HV := Lib.hid (fun W => pEmpty_any x0 y0 x1 y1 W)
  have HA := Lib.hid (fun W => pArea_any x0 y0 x1 y1 W)
  rw [hem] at HV
  have hbd := areaR_bd (x0, y0, x1, y1)
  generalize areaR (x0, y0, x1, y1) = ar at *
  clear hem
  go_enter Try.func27, Try.ntmps27
  have b2 := (Box.new w 23 #[.int .i64 x0, .int .i64 y0, .int .i64 x1, .int .i64 y1]).alloc (.cells #[.int .i64 0, .int .i64 0, .int .i64 0, .int .i64 0, .slice none 0 0] 34)
  have b4 := Box.at1 (w := w) (o := .cells #[.int .i64 x0, .int .i64 y0, .int .i64 x1, .int .i64 y1] 23) (t := 34) (cs := #[.int .i64 0, .int .i64 0, .int .i64 0, .int .i64 0, .slice none 0 0])
  have hE := (Ext.alloc w (.cells #[.int .i64 x0, .int .i64 y0, .int .i64 x1, .int .i64 y1] 23)).trans (Ext.alloc _ (.cells #[.int .i64 0, .int .i64 0, .int .i64 0, .int .i64 0, .slice none 0 0] 34))
  go_wp2_with fail
  refine (HV.out _).mono ?_
  rintro e w1 ⟨rfl, hE1⟩
  replace b2 := b2.ext hE1
  replace b4 := b4.ext hE1
  replace hE := hE.trans hE1
  clear hE1
  have c2 := b2.cell
  go_wp2_with fail
  refine (HA.out _).mono ?_
  rintro e w2 ⟨rfl, hE1⟩
  replace b4 := b4.ext hE1
  replace hE := hE.trans hE1
  have c4 := b4.cell
  have f4 := b4.frozen
  clear c2 hE1
  go_wp2
  exact bodyPost_ret (v := .tuple #[.agg #[.int .i64 0, .int .i64 0, .int .i64 0, .int .i64 0, .slice none 0 0], .int .i64 5]) (by simp [results, Try.results27, go_sem, List.size_toArray, c4, f4]) rfl ⟨rfl, hE.set5 (by omega) _ _ _ _ _⟩
end Go.Proofs.Ytefdheoalonbaaa
