/- Components of the reference. -/
import Derived.Test.YtkjpcjmbhpfelaaRgLab
set_option linter.unusedVariables false
set_option linter.unusedSimpArgs false
namespace Go.Reg
open Go.Proofs.Ytkjpcjmbhpfelaa Go.Par
/-- the rectangles with the label i -/
def selTo (L : List R4) (lab : List Nat) (i k : Nat) : List R4 := (List.range k).filterMap fun j => if lab[j]? = some i then L[j]? else none
theorem selTo_yes {L : List R4} {lab : List Nat} {i k : Nat} {r : R4} (h : lab[k]? = some i) (hr : L[k]? = some r) : selTo L lab i (k + 1) = selTo L lab i k ++ [r] := by
  unfold selTo
  rw [List.range_succ, List.filterMap_append]
  simp [h, hr]
theorem selTo_no {L : List R4} {lab : List Nat} {i k : Nat} (h : ¬ lab[k]? = some i) : selTo L lab i (k + 1) = selTo L lab i k := by
  unfold selTo
  rw [List.range_succ, List.filterMap_append]
  simp [h]
theorem selTo_len (L : List R4) (lab : List Nat) (i k : Nat) : (selTo L lab i k).length ≤ k := by
  unfold selTo
  exact Nat.le_trans (List.length_filterMap_le _ _) (by simp)
theorem mem_selTo {L : List R4} {lab : List Nat} {i k : Nat} {r : R4} : r ∈ selTo L lab i k ↔ ∃ j, j < k ∧ lab[j]? = some i ∧ L[j]? = some r := by
  unfold selTo
  rw [List.mem_filterMap]
  constructor
  · rintro ⟨j, hj, h⟩
    by_cases e : lab[j]? = some i
    · rw [if_pos e] at h; exact ⟨j, List.mem_range.1 hj, e, h⟩
    · rw [if_neg e] at h; cases h
  · rintro ⟨j, hj, e, h⟩; exact ⟨j, List.mem_range.2 hj, by rw [if_pos e]; exact h⟩
theorem selTo_start {L : List R4} {lab : List Nat} (h : LabOk L lab) (i : Nat) : selTo L lab i i = [] := by
  rw [List.eq_nil_iff_forall_not_mem]
  intro r hr
  obtain ⟨j, hj, e, _⟩ := mem_selTo.1 hr
  have := (h.each j i e).1
  omega
theorem sel_comp {L : List R4} {lab : List Nat} (h : LabOk L lab) (hd : ∀ i k, k < i → Adj L i k → lab[i]? = lab[k]?) {i : Nat} (hi : lab[i]? = some i) {n : Nat} (hn : L.length ≤ n) : CompOf L i (selTo L lab i n) := fun r => by
  rw [mem_selTo]
  constructor
  · rintro ⟨j, _, e, hr⟩; exact ⟨j, (h.mem hd hi).1 e, hr⟩
  · rintro ⟨j, hc, hr⟩
    have := (List.getElem?_eq_some_iff.1 hr).1
    exact ⟨j, by omega, (h.mem hd hi).2 hc, hr⟩
end Go.Reg
namespace Go.Proofs.Ytkjpcjmbhpfelaa
open Go.RowKit Go.Par Go.Reg

theorem RowsOf.snoc {w : World} {ss : List (Option Addr × Nat × Nat)} {ls : List (List R4)} {A : Option Addr} {n c : Nat} {l : List R4} (h : RowsOf w ss ls) (hn : l.length = n) (hb : n ≤ 17592186044416) (hA : rectE.At w A l) : RowsOf w (ss ++ [(A, n, c)]) (ls ++ [l]) := by
  refine ⟨by simp [h.1], fun i q hq => ?_⟩
  by_cases hi : i < ls.length
  · rw [List.getElem?_append_left hi] at hq
    obtain ⟨A, n, c, k1, k2⟩ := h.2 i q hq
    exact ⟨A, n, c, by rw [List.getElem?_append_left (by rw [h.1]; exact hi)]; exact k1, k2⟩
  · rw [List.getElem?_append_right (by omega)] at hq
    have h0 : i - ls.length = 0 := by
      have := (List.getElem?_eq_some_iff.1 hq).1
      simp at this
      omega
    rw [h0] at hq
    simp only [List.getElem?_cons_zero, Option.some.injEq] at hq
    subst hq
    exact ⟨A, n, c, by rw [List.getElem?_append_right (by rw [h.1]; omega), h.1, h0]; rfl, hn, hb, hA⟩
theorem RowsOf.nil (w : World) : RowsOf w [] [] := ⟨rfl, fun i l h => by simp at h⟩
/-- rows of rectangles, each in a block known whole: they abide the growing of other rows -/
def RowsBox (w : World) (ss : List (Option Addr × Nat × Nat)) (ls : List (List R4)) : Prop :=
  ss.length = ls.length ∧ ∀ (i : Nat) (l : List R4), ls[i]? = some l → ∃ A n c, ss[i]? = some (A, n, c) ∧ l.length = n ∧ n ≤ 17592186044416 ∧ rectE.BoxAt w A l
theorem RowsBox.nil (w : World) : RowsBox w [] [] := ⟨rfl, fun i l h => by simp at h⟩
theorem RowsBox.ext {w w' : World} {ss : List (Option Addr × Nat × Nat)} {ls : List (List R4)} (h : RowsBox w ss ls) (he : Ext w w') : RowsBox w' ss ls :=
  ⟨h.1, fun i l hl => by obtain ⟨A, n, c, h1, h2, h3, h4⟩ := h.2 i l hl; exact ⟨A, n, c, h1, h2, h3, h4.ext he⟩⟩
theorem RowsBox.rows {w : World} {ss : List (Option Addr × Nat × Nat)} {ls : List (List R4)} (h : RowsBox w ss ls) : RowsOf w ss ls :=
  ⟨h.1, fun i l hl => by obtain ⟨A, n, c, h1, h2, h3, h4⟩ := h.2 i l hl; exact ⟨A, n, c, h1, h2, h3, h4.at⟩⟩
theorem RowsBox.grown {w w' : World} {B2 : Nat} {v : Value} {ss ss' : List (Option Addr × Nat × Nat)} {ls : List (List R4)} (h : RowsBox w ss ls) (hown : slE.Own w B2 v ss') (hg : w.grownBy w' v.ownBlock) : RowsBox w' ss ls :=
  ⟨h.1, fun i l hl => by obtain ⟨A, n, c, h1, h2, h3, h4⟩ := h.2 i l hl; exact ⟨A, n, c, h1, h2, h3, h4.grown hown (by decide) hg⟩⟩
theorem RowsBox.snoc {w : World} {ss : List (Option Addr × Nat × Nat)} {ls : List (List R4)} {A : Option Addr} {n c : Nat} {l : List R4} (h : RowsBox w ss ls) (hn : l.length = n) (hb : n ≤ 17592186044416) (hA : rectE.BoxAt w A l) : RowsBox w (ss ++ [(A, n, c)]) (ls ++ [l]) := by
  refine ⟨by simp [h.1], fun i q hq => ?_⟩
  by_cases hi : i < ls.length
  · rw [List.getElem?_append_left hi] at hq
    obtain ⟨A, n, c, k1, k2⟩ := h.2 i q hq
    exact ⟨A, n, c, by rw [List.getElem?_append_left (by rw [h.1]; exact hi)]; exact k1, k2⟩
  · rw [List.getElem?_append_right (by omega)] at hq
    have h0 : i - ls.length = 0 := by
      have := (List.getElem?_eq_some_iff.1 hq).1
      simp at this
      omega
    rw [h0] at hq
    simp only [List.getElem?_cons_zero, Option.some.injEq] at hq
    subst hq
    exact ⟨A, n, c, by rw [List.getElem?_append_right (by rw [h.1]; omega), h.1, h0]; rfl, hn, hb, hA⟩
/-- what Components hands back -/
def CompRes (l : List R4) (v : Value) (er : Int) (w : World) : Prop :=
  ∃ L, RegionOf (inL l) L ∧ ((L.length ≤ 1024 ∧ er = 0 ∧ ∃ A c ss ms C, v = .slice A ss.length c ∧ ss.length ≤ 1024 ∧ slE.At w A ss ∧ RowsOf w ss C ∧ Mins L L.length ms ∧ CompsOf L ms C) ∨ (1024 < L.length ∧ er = 5 ∧ v = .slice none 0 0))
set_option maxRecDepth 100000 in
set_option maxHeartbeats 6400000 in
theorem rComponents_any (l : List R4) (A : Option Addr) (n c : Nat) (w : World) (hn : l.length = n) (hb : n ≤ 1024) (hA : rectE.At w A l) :
    Calls Try.prog 38 #[.slice A n c] w fun e w' => ∃ v er, e = .returned (.tuple #[v, .int .i64 er]) ∧ Ext w w' ∧ CompRes l v er w' := by
  have H := Lib.hid (rNew_any l A n c w hn hb hA)
  have HWI := Lib.hid (inL_win l)
  clear hn hA
  go_enter Try.func38, Try.ntmps38
  go_wp2_with fail
  refine H.out.mono ?_
  rintro e w1 ⟨v, er, L, rfl, hE1, hr, hres⟩
  have HR := Lib.hid hr
  obtain ⟨k1, rfl, hown⟩ | ⟨k1, rfl, rfl⟩ := hres
  rotate_left
  · clear hr
    go_wp2
    exact bodyPost_ret (v := .tuple #[.slice none 0 0, .int .i64 5]) (by simp [results, Try.results38, go_sem, List.size_toArray]) rfl ⟨_, 5, rfl, hE1, L, HR.out, .inr ⟨k1, rfl, rfl⟩⟩
  · have hgeo := hr.geo HWI.out
    obtain ⟨m, hm⟩ : ∃ m, L.length = m := ⟨_, rfl⟩
    obtain ⟨A1, c1, rfl, _, hat⟩ := hown.at hm (by omega)
    rw [hm] at k1
    have HM := Lib.hid hm
    have HLAB := Lib.hid (labels_any L A1 m c1 w1 hm (by omega) hat (fun i j r s h1 h2 => hgeo.adj h1 h2))
    clear hr hown hm hgeo H
    go_wp2_with fail
    refine HLAB.out.mono ?_
    rintro e w2 ⟨v, lab, rfl, hE2, hownL, hok, hset⟩
    have HOK := Lib.hid hok
    have HSET := Lib.hid hset
    have hll : lab.length = m := by rw [hok.len, HM.out]
    obtain ⟨A2, c2, rfl, _, hatL⟩ := hownL.at (n := m) (by rw [intsN_len, hll]) (by omega)
    have HLL := Lib.hid hll
    replace hat := hat.ext hE2
    have HE := Lib.hid (hE1.trans hE2)
    clear hok hset hll hownL HLAB hE1 hE2
    have hE0 := Ext.alloc w2 (.cells #[] 22)
    have hown0 := EL.Own.made (E := slE) w2
    go_wp2_with fail
    go_loopw [7, 8, 9, 10] (fun s i _ _ wr => ∃ (j : Nat) (ss : List (Option Addr × Nat × Nat)) (ms : List Nat) (C : List (List R4)), j ≤ m ∧ i = .int .i64 j ∧ Ext w2 wr ∧ slE.Own wr w2.heap.size s ss ∧ Hid (ss.length ≤ j) ∧ RowsBox wr ss C ∧ Hid (Mins L j ms) ∧ Hid (CompsOf L ms C)) (fun _ i _ _ _ => m - (intOf i).toNat)
    case atStart => exact ⟨0, [], [], [], Nat.zero_le _, rfl, hE0, hown0, Lib.hid (Nat.le_refl _), RowsBox.nil _, Lib.hid (Mins.start L), Lib.hid (CompsOf.start L)⟩
    case round =>
      clear hE0 hown0
      obtain ⟨j, ss, ms, C, hj, rfl, hE, hown, HSL, hrows, HMI, HCO⟩ := hrel
      by_cases hlt : j < m
      · have dj : ((j : Int) < (m : Int)) = True := eq_true (by omega)
        obtain ⟨a, ha⟩ : ∃ a, lab[j]? = some a := ⟨_, List.getElem?_eq_getElem (by rw [HLL.out]; exact hlt)⟩
        obtain ⟨b2, o2, rfl⟩ := hatL.addr (intsN_get ha)
        have ca := hE.cell (int_cell hatL (intsN_get ha))
        have HLE := Lib.hid (HOK.out.least HSET.out (i := j) (by rw [HM.out]; exact hlt))
        by_cases haj : a = j
        · have ha' : lab[j]? = some j := by rw [ha, haj]
          have hb1 : ((a : Int) == (j : Int)) = true := by simp [haj]
          have HMI2 := Lib.hid (HMI.out.yes (by rw [HM.out]; exact hlt) (HLE.out.1 ha'))
          have HCP := Lib.hid (sel_comp HOK.out HSET.out ha' (n := m) (by rw [HM.out]; exact Nat.le_refl _))
          subst haj
          clear ha
          have hEs := Ext.alloc wr (.cells #[] 29)
          have hownS := EL.Own.made (E := rectE) wr
          go_wp2_with fail
          go_loopw [9, 10] (fun s i wq => ∃ k : Nat, a ≤ k ∧ k ≤ m ∧ i = .int .i64 k ∧ Ext wr wq ∧ rectE.Own wq wr.heap.size s (selTo L lab a k)) (fun _ i _ => m - (intOf i).toNat)
          case atStart => exact ⟨a, Nat.le_refl _, by omega, rfl, hEs, by rw [selTo_start HOK.out]; exact hownS⟩
          case round =>
            clear hEs hownS ca
            obtain ⟨k, hak, hk, rfl, hEs, hownS⟩ := hrel
            by_cases hlt3 : k < m
            · have dk : ((k : Int) < (m : Int)) = True := eq_true (by omega)
              obtain ⟨b, hbk⟩ : ∃ b, lab[k]? = some b := ⟨_, List.getElem?_eq_getElem (by rw [HLL.out]; exact hlt3)⟩
              have cb := hEs.cell (hE.cell (int_cell hatL (intsN_get hbk)))
              by_cases hba : b = a
              · subst hba
                have hb3 : ((b : Int) == (b : Int)) = true := by simp
                obtain ⟨⟨x0, x1, x2, x3⟩, hr⟩ : ∃ q, L[k]? = some q := ⟨_, List.getElem?_eq_getElem (by rw [HM.out]; omega)⟩
                obtain ⟨bb, o, rfl⟩ := hat.addr hr
                obtain ⟨e0, e1, e2, e3⟩ := rect_cell hat hr
                replace e0 := hEs.cell (hE.cell e0)
                replace e1 := hEs.cell (hE.cell e1)
                replace e2 := hEs.cell (hE.cell e2)
                replace e3 := hEs.cell (hE.cell e3)
                dsimp only at e0 e1 e2 e3
                have HS := Lib.hid (selTo_yes hbk hr)
                have HLN := Lib.hid (selTo_len L lab b k)
                generalize selTo L lab b k = cur at *
                clear hbk hr
                have hEb := hEs.trans (Ext.alloc _ (.cells #[.int .i64 x0, .int .i64 x1, .int .i64 x2, .int .i64 x3] 29))
                have hownB := hownS.ext (Ext.alloc _ (.cells #[.int .i64 x0, .int .i64 x1, .int .i64 x2, .int .i64 x3] 29))
                have hrow := EL.rowOne (E := rectE) (x := (x0, x1, x2, x3)) (Box.new wr 29 #[.int .i64 x0, .int .i64 x1, .int .i64 x2, .int .i64 x3]) rfl
                have hsz := hEb.size
                have hlen : cur.length + ([(x0, x1, x2, x3)] : List R4).length ≤ 1000000000 := by have := HLN.out; simp only [List.length_singleton]; omega
                go_wp2_with (at_builtin; refine EL.wpApp rectE rfl _ _ rfl _ _ _ cur [(x0, x1, x2, x3)] rfl rfl hownB hrow hlen hsz ?_; intro v1 W1 own1 gr1 _)
                have hE5 := growExt hEb hownB (Nat.le_refl _) gr1
                go_roundw
                case rel => exact ⟨k + 1, by omega, by omega, by go_num, hE5, by rw [HS.out]; exact own1⟩
                case measure => simp [intOf]; omega
              · have hb3 : ((b : Int) == (a : Int)) = false := by simp; omega
                have hb4 : ((b : Int) = (a : Int)) = False := eq_false (by omega)
                have HS := Lib.hid (selTo_no (L := L) (i := a) (k := k) (lab := lab) (fun h => hba (by rw [hbk] at h; injection h)))
                clear hbk hba
                go_wp2
                go_roundw
                case rel => exact ⟨k + 1, by omega, by omega, by go_num, hEs, by rw [HS.out]; exact hownS⟩
                case measure => simp [intOf]; omega
            · have dk : ((k : Int) < (m : Int)) = False := eq_false (by omega)
              have HKM := Lib.hid (show k = m by omega)
              rw [HKM.out] at hownS
              have HPL := Lib.hid (selTo_len L lab a m)
              generalize selTo L lab a m = P at *
              obtain ⟨np, hnp⟩ : ∃ np, P.length = np := ⟨_, rfl⟩
              have hnpb : np ≤ 1024 := by rw [← hnp]; have := HPL.out; omega
              obtain ⟨AP, cP, rfl, _, hatP⟩ := hownS.at hnp (by omega)
              have HMK := Lib.hid (rMadeC_any P AP np cP _ hnp (by omega) hatP)
              have hEq := hE.trans hEs
              replace hown := hown.ext hEs
              replace hrows := hrows.ext hEs
              clear hnp hownS hatP hEs hE
              go_wp2_with fail
              refine HMK.out.mono ?_
              rintro e w5 ⟨v5, M, rfl, hE5, hrM, hlM, hownM⟩
              have HCO2 := Lib.hid (HCO.out.snoc HCP.out hrM)
              obtain ⟨nM, hnM⟩ : ∃ nM, M.length = nM := ⟨_, rfl⟩
              rw [hnM] at hlM
              obtain ⟨AM, cM, rfl, _, _⟩ := hownM.at hnM (by omega)
              have hbM := EL.BoxAt.of_own hownM
              replace hEq := hEq.trans hE5
              replace hown := hown.ext hE5
              have hrows2 := (hrows.ext hE5).snoc (c := cM) hnM (by omega) hbM
              clear hownM hnM hrM HMK hrows hE5 hbM
              have hEa := hEq.trans (Ext.alloc w5 (.cells #[.slice AM nM cM] 22))
              have hownA := hown.ext (Ext.alloc w5 (.cells #[.slice AM nM cM] 22))
              have hrowsA := hrows2.ext (Ext.alloc w5 (.cells #[.slice AM nM cM] 22))
              have hrow := EL.rowOne (E := slE) (x := (AM, nM, cM)) (Box.new w5 22 #[.slice AM nM cM]) rfl
              have hsz := hEa.size
              have hlen : ss.length + ([(AM, nM, cM)] : List (Option Addr × Nat × Nat)).length ≤ 1000000000 := by have := HSL.out; simp only [List.length_singleton]; omega
              go_wp2_with (at_builtin; refine EL.wpApp slE rfl _ _ rfl w2.heap.size _ _ ss [(AM, nM, cM)] rfl rfl hownA hrow hlen hsz ?_; intro v1 W1 own1 gr1 _)
              have hE6 := growExt hEa hownA (Nat.le_refl _) gr1
              have hrows3 := hrowsA.grown hownA gr1
              go_roundw
              case rel => exact ⟨a + 1, _, _, _, by omega, by go_num, hE6, own1, Lib.hid (by have := HSL.out; simp; omega), hrows3, HMI2, HCO2⟩
              case measure => simp [intOf]; omega
        · have hb1 : ((a : Int) == (j : Int)) = false := by simp; omega
          have hb2 : ((a : Int) != (j : Int)) = true := by simp; omega
          have HMI2 := Lib.hid (HMI.out.no (fun h => haj (by have := HLE.out.2 h; rw [ha] at this; injection this)))
          clear haj ha
          go_wp2
          go_roundw
          case rel => exact ⟨j + 1, ss, ms, C, by omega, by go_num, hE, hown, Lib.hid (by have := HSL.out; omega), hrows, HMI2, HCO⟩
          case measure => simp [intOf]; omega
      · have dj : ((j : Int) < (m : Int)) = False := eq_false (by omega)
        have HJM := Lib.hid (show j = L.length by rw [HM.out]; omega)
        have HMI2 := Lib.hid (show Mins L L.length ms from by rw [← HJM.out]; exact HMI.out)
        obtain ⟨A9, c9, rfl, _, hat9⟩ := hown.at (n := ss.length) rfl (by have := HSL.out; omega)
        go_wp2
        exact bodyPost_ret (v := .tuple #[.slice A9 ss.length c9, .int .i64 0]) (by simp [results, Try.results38, go_sem, List.size_toArray]) rfl ⟨_, 0, rfl, HE.out.trans hE, L, HR.out, .inl ⟨by rw [HM.out]; exact k1, rfl, A9, c9, ss, ms, C, rfl, by have := HSL.out; omega, hat9, hrows.rows, HMI2.out, HCO.out⟩⟩
end Go.Proofs.Ytkjpcjmbhpfelaa
