/- labels of the reference. -/
import Derived.Test.YtkjpcjmbhpfelaaRgTch
set_option linter.unusedVariables false
set_option linter.unusedSimpArgs false
namespace Go.Reg
open Go.Proofs.Ytkjpcjmbhpfelaa Go.Par
def intsN (l : List Nat) : List Int := l.map fun n : Nat => (n : Int)
theorem intsN_len (l : List Nat) : (intsN l).length = l.length := by simp [intsN]
theorem intsN_get {l : List Nat} {i a : Nat} (h : l[i]? = some a) : (intsN l)[i]? = some (a : Int) := by simp [intsN, h]
theorem intsN_set (l : List Nat) (i m : Nat) : (intsN l).set i (m : Int) = intsN (l.set i m) := by simp [intsN, List.map_set]
theorem intsN_range (k : Nat) : intsN (List.range (k + 1)) = intsN (List.range k) ++ [(k : Int)] := by simp [intsN, List.range_succ]
/-- the pairs ahead of (j, k) are settled -/
def Settled (L : List R4) (lab : List Nat) (j k : Nat) : Prop := ∀ i' k', k' < i' → (i' < j ∨ (i' = j ∧ k' < k)) → Adj L i' k' → lab[i']? = lab[k']?
theorem Settled.step {L : List R4} {lab : List Nat} {j k : Nat} (h : Settled L lab j k) (hn : Adj L j k → lab[j]? = lab[k]?) : Settled L lab j (k + 1) := fun i' k' h1 h2 ha => by
  rcases h2 with h2 | ⟨h2, h3⟩
  · exact h i' k' h1 (.inl h2) ha
  · by_cases e : k' = k
    · subst h2; subst e; exact hn ha
    · exact h i' k' h1 (.inr ⟨h2, by omega⟩) ha
theorem Settled.next {L : List R4} {lab : List Nat} {j k : Nat} (h : Settled L lab j k) (hk : j ≤ k) : Settled L lab (j + 1) 0 := fun i' k' h1 h2 ha => by
  rcases h2 with h2 | ⟨h2, h3⟩
  · by_cases e : i' = j
    · exact h i' k' h1 (.inr ⟨e, by omega⟩) ha
    · exact h i' k' h1 (.inl (by omega)) ha
  · omega
/-- how a round of labels stands -/
structure LabTo (L : List R4) (lab0 lab : List Nat) (b : Bool) (j k : Nat) : Prop where
  ok : LabOk L lab
  same : b = false → lab = lab0 ∧ Settled L lab j k
  less : b = true → lab.sum < lab0.sum
theorem LabTo.start {L : List R4} {lab : List Nat} (h : LabOk L lab) : LabTo L lab lab false 0 0 := ⟨h, fun _ => ⟨rfl, fun i' k' h1 h2 ha => by omega⟩, fun e => by cases e⟩
theorem LabTo.stay {L : List R4} {lab0 lab : List Nat} {b : Bool} {j k : Nat} (h : LabTo L lab0 lab b j k) (hn : Adj L j k → lab[j]? = lab[k]?) : LabTo L lab0 lab b j (k + 1) :=
  ⟨h.ok, fun e => ⟨(h.same e).1, (h.same e).2.step hn⟩, h.less⟩
theorem LabTo.next {L : List R4} {lab0 lab : List Nat} {b : Bool} {j k : Nat} (h : LabTo L lab0 lab b j k) (hk : j ≤ k) : LabTo L lab0 lab b (j + 1) 0 :=
  ⟨h.ok, fun e => ⟨(h.same e).1, (h.same e).2.next hk⟩, h.less⟩
theorem LabTo.set {L : List R4} {lab0 lab : List Nat} {b : Bool} {j k x y m : Nat} (h : LabTo L lab0 lab b j k) (hk : k < j) (hj : lab[j]? = some x) (hk2 : lab[k]? = some y) (hne : x ≠ y) (ha : Adj L j k) (hm : min x y = m) : LabTo L lab0 ((lab.set j m).set k m) true j (k + 1) := by
  subst hm
  obtain ⟨h1, h2⟩ := h.ok.low hk hj hk2 hne ha
  refine ⟨h1, (fun e => by cases e), fun _ => ?_⟩
  cases b
  · rw [(h.same rfl).1] at h2 ⊢; exact h2
  · exact Nat.lt_trans h2 (h.less rfl)
end Go.Reg
namespace Go.Proofs.Ytkjpcjmbhpfelaa
open Go.RowKit Go.Par Go.Reg

def cellN (w : World) (g i : Nat) : Nat := match w.cell? ⟨g, i, none⟩ with | some x => (intOf x).toNat | none => 0
def sumAt (v : Value) (w : World) : Nat := match v with | .slice (some a) n _ => ((List.range n).map (cellN w a.block)).sum | _ => 0
theorem sumAt_own {w : World} {B : Nat} {v : Value} {lab : List Nat} (h : intE.Own w B v (intsN lab)) : sumAt v w = lab.sum := by
  rcases Nat.eq_zero_or_pos lab.length with e | e
  · obtain ⟨A, c, rfl, _, _⟩ := h.len
    have e2 : lab = [] := List.eq_nil_of_length_eq_zero e
    subst e2
    cases A <;> rfl
  · obtain ⟨g, cap, rfl, _, _⟩ := h.head (by rw [intsN_len]; exact e)
    show ((List.range (intsN lab).length).map (cellN w g)).sum = lab.sum
    congr 1
    refine List.ext_getElem? fun i => ?_
    rw [List.getElem?_map, intsN_len]
    by_cases hi : i < lab.length
    · rw [List.getElem?_range hi, List.getElem?_eq_getElem hi]
      have hc := h.cell (i := i) (j := 0) (x := ((lab[i] : Nat) : Int)) (intsN_get (List.getElem?_eq_getElem hi)) rfl
      rw [show intE.size = 1 from rfl, Nat.mul_one, Nat.add_zero] at hc
      show some (cellN w g i) = _
      unfold cellN
      rw [hc]
      simp [intOf]
    · rw [List.getElem?_eq_none (by simpa using hi), List.getElem?_eq_none (by omega)]; rfl
theorem intE_size1 : intE.size = 1 := rfl
def oneIf (v : Value) : Nat := match v with | .bool true => 1 | _ => 0
set_option maxRecDepth 100000 in
set_option maxHeartbeats 6400000 in
theorem labels_any (L : List R4) (A : Option Addr) (n c : Nat) (w : World) (hn : L.length = n) (hnb : n ≤ 1000000) (hA : rectE.At w A L) (hadj : ∀ (i j : Nat) r s, L[i]? = some r → L[j]? = some s → adjS r s = touchS r s) :
    Calls Try.prog 67 #[.slice A n c] w fun e w' => ∃ v lab, e = .returned v ∧ Ext w w' ∧ intE.Own w' w.heap.size v (intsN lab) ∧ LabOk L lab ∧ ∀ i k, k < i → Adj L i k → lab[i]? = lab[k]? := by
  have HN := Lib.hid hn
  have HADJ := Lib.hid hadj
  have HAD := Lib.hid (fun a b c d p q r s W => adjacent_any a b c d p q r s W)
  have HL0 := Lib.hid (LabOk.start L)
  rw [hn] at HL0
  clear hn hadj
  have hE0 := Ext.alloc w (.cells #[] 3)
  have hown0 := EL.Own.made (E := intE) w
  go_enter Try.func67, Try.ntmps67
  go_wp2_with fail
  go_loopw [3, 4] (fun s i wr => ∃ k : Nat, k ≤ n ∧ i = .int .i64 k ∧ Ext w wr ∧ intE.Own wr w.heap.size s (intsN (List.range k))) (fun _ i _ => n - (intOf i).toNat)
  case atStart => exact ⟨0, Nat.zero_le _, rfl, hE0, hown0⟩
  case round =>
    clear hE0 hown0
    obtain ⟨k, hk, rfl, hE, hown⟩ := hrel
    by_cases hlt : k < n
    · have dk : ((k : Int) < (n : Int)) = True := eq_true (by omega)
      have hEa := hE.trans (Ext.alloc wr (.cells #[.int .i64 k] 3))
      have hownA := hown.ext (Ext.alloc wr (.cells #[.int .i64 k] 3))
      have hrow := EL.rowOne (E := intE) (Box.new wr 3 #[.int .i64 k]) rfl
      have hsz := hEa.size
      have hll : (intsN (List.range k)).length + ([(k : Int)] : List Int).length ≤ 1000000000 := by rw [intsN_len]; simp; omega
      have HS := Lib.hid (intsN_range k)
      generalize intsN (List.range k) = cur at *
      go_wp2_with (at_builtin; refine EL.wpApp intE rfl _ _ rfl w.heap.size _ _ cur [(k : Int)] rfl rfl hownA hrow hll hsz ?_; intro v1 W1 own1 gr1 _)
      have hE5 := growExt hEa hownA (Nat.le_refl _) gr1
      go_roundw
      case rel => exact ⟨k + 1, by omega, by go_num, hE5, by rw [HS.out]; exact own1⟩
      case measure => simp [intOf]; omega
    · have dk : ((k : Int) < (n : Int)) = False := eq_false (by omega)
      have HKN := Lib.hid (show k = n by omega)
      have hown' := hown
      rw [HKN.out] at hown'
      obtain ⟨A3, c3, rfl, _, _⟩ := hown'.len
      rw [intsN_len, List.length_range] at hown' ⊢
      clear hown
      go_wp2_with fail
      go_loopw [5, 6, 7, 8] (fun ch _ _ _ wr => ∃ (b : Bool) (lab : List Nat), ch = .bool b ∧ Ext w wr ∧ intE.Own wr w.heap.size (.slice A3 n c3) (intsN lab) ∧ Hid (LabOk L lab) ∧ Hid (b = false → Settled L lab n 0)) (fun ch _ _ _ wr => 2 * sumAt (.slice A3 n c3) wr + oneIf ch)
      case atStart => exact ⟨true, List.range n, rfl, hE, hown', HL0, Lib.hid (fun e => by cases e)⟩
      case round =>
        clear hE hown'
        obtain ⟨b, lab0, rfl, hE, hown, HL, HS⟩ := hrel
        cases b
        · go_wp2
          go_ret
          exact ⟨_, rfl, hE, lab0, hown, HL.out, fun i k hki ha => HS.out (by trivial) i k hki (.inl (by
            obtain ⟨r, s, h1, _⟩ := ha
            have := (List.getElem?_eq_some_iff.1 h1).1
            rw [HN.out] at this; exact this)) ha⟩
        · have HM0 := Lib.hid (sumAt_own hown)
          go_wp2_with fail
          go_loopw [5, 6, 7, 8] (fun ch i _ _ wr => ∃ (b : Bool) (j : Nat) (lab : List Nat), j ≤ n ∧ ch = .bool b ∧ i = .int .i64 j ∧ Ext w wr ∧ intE.Own wr w.heap.size (.slice A3 n c3) (intsN lab) ∧ Hid (LabTo L lab0 lab b j 0)) (fun _ i _ _ _ => n - (intOf i).toNat)
          case atStart => exact ⟨false, 0, lab0, Nat.zero_le _, rfl, rfl, hE, hown, Lib.hid (LabTo.start HL.out)⟩
          case round =>
            clear hE hown HS
            obtain ⟨b, j, lab, hj, rfl, rfl, hE, hown, HT⟩ := hrel
            by_cases hlt2 : j < n
            · have dj : ((j : Int) < (n : Int)) = True := eq_true (by omega)
              go_wp2_with fail
              go_loopw [5, 7, 8] (fun ch kk _ wr => ∃ (b : Bool) (k : Nat) (lab : List Nat), k ≤ j ∧ ch = .bool b ∧ kk = .int .i64 k ∧ Ext w wr ∧ intE.Own wr w.heap.size (.slice A3 n c3) (intsN lab) ∧ Hid (LabTo L lab0 lab b j k)) (fun _ kk _ _ => j - (intOf kk).toNat)
              case atStart => exact ⟨b, 0, lab, Nat.zero_le _, rfl, rfl, hE, hown, HT⟩
              case round =>
                clear hE hown HT
                obtain ⟨b, k, lab, hk, rfl, rfl, hE, hown, HT⟩ := hrel
                by_cases hlt3 : k < j
                · have dkj : ((k : Int) < (j : Int)) = True := eq_true (by omega)
                  have hkn : k < n := by omega
                  have hlen : lab.length = n := by rw [HT.out.ok.len, HN.out]
                  obtain ⟨x, hx⟩ : ∃ x, lab[j]? = some x := ⟨_, List.getElem?_eq_getElem (by omega)⟩
                  obtain ⟨y, hy⟩ : ∃ y, lab[k]? = some y := ⟨_, List.getElem?_eq_getElem (by omega)⟩
                  obtain ⟨⟨x0, x1, x2, x3⟩, hr⟩ : ∃ q, L[j]? = some q := ⟨_, List.getElem?_eq_getElem (by rw [HN.out]; omega)⟩
                  obtain ⟨⟨y0, y1, y2, y3⟩, hs⟩ : ∃ q, L[k]? = some q := ⟨_, List.getElem?_eq_getElem (by rw [HN.out]; omega)⟩
                  obtain ⟨g, cap, e9, hgB, hcap⟩ := hown.head (by rw [intsN_len]; omega)
                  injection e9 with e91 e92 e93
                  subst e91
                  subst e93
                  clear e92 hlen
                  have e1s : intE.size = 1 := rfl
                  have cx := hown.cell (i := j) (j := 0) (x := (x : Int)) (intsN_get hx) rfl
                  have cy := hown.cell (i := k) (j := 0) (x := (y : Int)) (intsN_get hy) rfl
                  rw [e1s, Nat.mul_one, Nat.add_zero] at cx cy
                  obtain ⟨bb, o, rfl⟩ := hA.addr hr
                  obtain ⟨p0, p1, p2, p3⟩ := rect_cell hA hr
                  obtain ⟨q0, q1, q2, q3⟩ := rect_cell hA hs
                  dsimp only at p0 p1 p2 p3 q0 q1 q2 q3
                  replace p0 := hE.cell p0
                  replace p1 := hE.cell p1
                  replace p2 := hE.cell p2
                  replace p3 := hE.cell p3
                  replace q0 := hE.cell q0
                  replace q1 := hE.cell q1
                  replace q2 := hE.cell q2
                  replace q3 := hE.cell q3
                  have HAD' := Lib.hid (fun W => HAD.out x0 x1 x2 x3 y0 y1 y2 y3 W)
                  have HNA := Lib.hid (show Adj L j k ↔ adjS (x0, x1, x2, x3) (y0, y1, y2, y3) = true from by
                    rw [HADJ.out j k _ _ hr hs]
                    constructor
                    · rintro ⟨r, s, h1, h2, h3⟩
                      rw [hr] at h1; rw [hs] at h2
                      injection h1 with h1; injection h2 with h2
                      subst h1; subst h2; exact h3
                    · intro h; exact ⟨_, _, hr, hs, h⟩)
                  generalize adjS (x0, x1, x2, x3) (y0, y1, y2, y3) = ad at *
                  have HXG := Lib.hid hx
                  have HYG := Lib.hid hy
                  clear hr hs hx hy
                  by_cases hxy : x = y
                  · have hb1 : ((x : Int) == (y : Int)) = true := by simp [hxy]
                    have HST := Lib.hid (show LabTo L lab0 lab b j (k + 1) from HT.out.stay fun _ => by rw [HXG.out, HYG.out, hxy])
                    subst hxy
                    go_wp2_with fail
                    apply wp_region_par' 20 (by kernel_rfl) (by kernel_rfl) rfl
                    simp only [List.take_succ_cons, List.take_zero, List.drop_succ_cons, List.drop_zero]
                    generalize hW : World.drew _ = W
                    have hEW : Ext wr W := by rw [← hW]; exact Ext.drew _
                    clear hW
                    have z0 := fun z : Later W => z.cell (hEW.cell cx)
                    have z1 := fun z : Later W => z.cell (hEW.cell cy)
                    iterate 20
                      refine parW_step rfl (fun K hK => ?_)
                      apply Exists.intro
                      refine ⟨fun z => ?_, ?_⟩
                      focus
                        go_simp
                        first
                          | rfl
                          | fail
                      go_simp
                      refine hK _ ?_
                      clear hK K
                    refine parW_end (fun z => ?_)
                    have hEz := hEW.later z
                    clear z0 z1 cx cy p0 p1 p2 p3 q0 q1 q2 q3
                    replace hE := hE.trans hEz
                    replace hown := hown.ext hEz
                    generalize z.val = Z at *
                    clear z hEz hEW
                    go_wp2
                    go_roundw
                    case rel => exact ⟨b, k + 1, lab, by omega, rfl, by go_num, hE, hown, HST⟩
                    case measure => simp [intOf]; omega
                  · have hb1 : ((x : Int) == (y : Int)) = false := by simp; omega
                    have hb2 : ((x : Int) = (y : Int)) = False := eq_false (by omega)
                    have hb3 : ((x : Int) != (y : Int)) = true := by simp; omega
                    have HNE := Lib.hid hxy
                    clear hxy
                    go_wp2_with fail
                    apply wp_region_par' 20 (by kernel_rfl) (by kernel_rfl) rfl
                    simp only [List.take_succ_cons, List.take_zero, List.drop_succ_cons, List.drop_zero]
                    generalize hW : World.drew _ = W
                    have hEW : Ext wr W := by rw [← hW]; exact Ext.drew _
                    clear hW
                    have z0 := fun z : Later W => z.cell (hEW.cell cx)
                    have z1 := fun z : Later W => z.cell (hEW.cell cy)
                    have z2 := fun z : Later W => z.cell (hEW.cell p0)
                    have z3 := fun z : Later W => z.cell (hEW.cell p1)
                    have z4 := fun z : Later W => z.cell (hEW.cell p2)
                    have z5 := fun z : Later W => z.cell (hEW.cell p3)
                    have z6 := fun z : Later W => z.cell (hEW.cell q0)
                    have z7 := fun z : Later W => z.cell (hEW.cell q1)
                    have z8 := fun z : Later W => z.cell (hEW.cell q2)
                    have z9 := fun z : Later W => z.cell (hEW.cell q3)
                    iterate 20
                      refine parW_step rfl (fun K hK => ?_)
                      apply Exists.intro
                      refine ⟨fun z => ?_, ?_⟩
                      focus
                        go_simp
                        first
                          | rfl
                          | with_reducible exact calls_val (HAD'.out _)
                      go_simp
                      refine hK _ ?_
                      clear hK K
                    refine parW_end (fun z => ?_)
                    have hEz := hEW.later z
                    clear z0 z1 z2 z3 z4 z5 z6 z7 z8 z9 p0 p1 p2 p3 q0 q1 q2 q3
                    replace cx := hEz.cell cx
                    replace cy := hEz.cell cy
                    replace hE := hE.trans hEz
                    replace hown := hown.ext hEz
                    generalize z.val = Z at *
                    clear z hEz hEW
                    cases ad
                    · have HST := Lib.hid (show LabTo L lab0 lab b j (k + 1) from HT.out.stay fun ha => by have := HNA.out.1 ha; cases this)
                      clear cx cy
                      go_wp2
                      go_roundw
                      case rel => exact ⟨b, k + 1, lab, by omega, rfl, by go_num, hE, hown, HST⟩
                      case measure => simp [intOf]; omega
                    · obtain ⟨m, hm⟩ : ∃ m, min x y = m := ⟨_, rfl⟩
                      have hmi : min (x : Int) (y : Int) = (m : Int) := by omega
                      have HST := Lib.hid (HT.out.set hlt3 HXG.out HYG.out HNE.out (HNA.out.2 rfl) hm)
                      clear hm
                      go_wp2_with fail
                      apply wp_region_par' 9 (by kernel_rfl) (by kernel_rfl) rfl
                      simp only [List.take_succ_cons, List.take_zero, List.drop_succ_cons, List.drop_zero]
                      generalize hW : World.drew _ = W
                      have hEW : Ext Z W := by rw [← hW]; exact Ext.drew _
                      clear hW
                      have z0 := fun z : Later W => z.cell (hEW.cell cx)
                      have z1 := fun z : Later W => z.cell (hEW.cell cy)
                      iterate 9
                        refine parW_step rfl (fun K hK => ?_)
                        apply Exists.intro
                        refine ⟨fun z => ?_, ?_⟩
                        focus
                          go_simp
                          first
                            | rfl
                            | fail
                        go_simp
                        refine hK _ ?_
                        clear hK K
                      refine parW_end (fun z => ?_)
                      have hEz := hEW.later z
                      clear z0 z1
                      replace cx := hEz.cell cx
                      replace cy := hEz.cell cy
                      replace hE := hE.trans hEz
                      replace hown := hown.ext hEz
                      generalize z.val = Z1 at *
                      clear z hEz hEW
                      have fx := hown.frozen (i := j)
                      have hset := hown.setAt (i := j) (j := 0) (x := (x : Int)) (y := (m : Int)) (v := .int .i64 m) (intsN_get HXG.out) (by decide) rfl
                      rw [intE_size1, Nat.mul_one, Nat.add_zero, intsN_set] at hset
                      have cy2 := hset.cell (i := k) (j := 0) (x := (y : Int)) (intsN_get (by rw [List.getElem?_set_ne (by omega)]; exact HYG.out)) rfl
                      rw [intE_size1, Nat.mul_one, Nat.add_zero] at cy2
                      have fy2 := hset.frozen (i := k)
                      have hset2 := hset.setAt (i := k) (j := 0) (x := (y : Int)) (y := (m : Int)) (v := .int .i64 m) (intsN_get (by rw [List.getElem?_set_ne (by omega)]; exact HYG.out)) (by decide) rfl
                      rw [intE_size1, Nat.mul_one, Nat.add_zero, intsN_set] at hset2
                      have hE2 := (hE.setNew (b := g) hgB j (.int .i64 m)).setNew (b := g) hgB k (.int .i64 m)
                      have HSET := Lib.hid hset2
                      clear hset hset2 hown cy
                      go_wp2
                      go_roundw
                      case rel => exact ⟨true, k + 1, (lab.set j m).set k m, by omega, rfl, by go_num, hE2, HSET.out, HST⟩
                      case measure => simp [intOf]; omega
                · have dkj : ((k : Int) < (j : Int)) = False := eq_false (by omega)
                  have HST := Lib.hid (HT.out.next (show j ≤ k by omega))
                  go_wp2
                  go_roundw
                  case rel => exact ⟨b, j + 1, lab, by omega, rfl, by go_num, hE, hown, HST⟩
                  case measure => simp [intOf]; omega
            · have dj : ((j : Int) < (n : Int)) = False := eq_false (by omega)
              have HM := Lib.hid (sumAt_own hown)
              have HJ := Lib.hid (show j = n by omega)
              go_wp2
              go_roundw
              case rel => exact ⟨b, lab, rfl, hE, hown, Lib.hid HT.out.ok, Lib.hid (fun e => by have := (HT.out.same e).2; rw [HJ.out] at this; exact this)⟩
              case measure =>
                show 2 * sumAt (.slice A3 n c3) wr + oneIf (.bool b) < 2 * sumAt (.slice A3 n c3) _ + oneIf (.bool true)
                rw [HM.out, HM0.out]
                cases b
                · rw [(HT.out.same rfl).1]; simp [oneIf]
                · have := HT.out.less rfl; simp only [oneIf]; omega
end Go.Proofs.Ytkjpcjmbhpfelaa
