/- cuts: the rows at which rectangles begin or end. -/
import Derived.Test.YtkjpcjmbhpfelaaRgSortI
set_option linter.unusedVariables false
set_option linter.unusedSimpArgs false
namespace Go.Proofs.Ytkjpcjmbhpfelaa
open Go.RowKit Go.Par Go.Reg Go.Maps

/-- slices of rectangles, in a row -/
def slE : EL Try.prog (Option Addr × Nat × Nat) where
  enc := fun r => [.slice r.1 r.2.1 r.2.2]
  size := 1
  t := 22
  st := 43
  zero := .slice none 0 0
  bytes := 24
  len := fun _ => rfl
  one := fun x v hv => by simp at hv; rcases hv with rfl; rfl
  pos := by decide
  und := Try.underlying43
  info := by kernel_rfl
  zsize := rfl
  small := by decide
def RowsOf (w : World) (ss : List (Option Addr × Nat × Nat)) (ls : List (List R4)) : Prop :=
  ss.length = ls.length ∧ ∀ (i : Nat) (l : List R4), ls[i]? = some l → ∃ A n c, ss[i]? = some (A, n, c) ∧ l.length = n ∧ n ≤ 17592186044416 ∧ rectE.At w A l
theorem RowsOf.ext {w w' : World} {ss : List (Option Addr × Nat × Nat)} {ls : List (List R4)} (h : RowsOf w ss ls) (he : Ext w w') : RowsOf w' ss ls :=
  ⟨h.1, fun i l hl => by obtain ⟨A, n, c, h1, h2, h3, h4⟩ := h.2 i l hl; exact ⟨A, n, c, h1, h2, h3, h4.ext he⟩⟩
theorem keyed_int : Keyed Try.prog 3 := int_keyed Try.underlying3
theorem boolR_true {H : Type} : plainElem (H := H) Try.prog 4 (.bool true) = some (.lit (.bool true), []) := plainElem_bool Try.underlying4 true
set_option maxRecDepth 100000 in
theorem boolR_inv {H : Type} {v : Value} {y : DataW H × List MemPlace} (h : plainElem Try.prog 4 v = some y) : ∃ c : Bool, v = .bool c := by
  unfold plainElem at h
  rw [Try.underlying4] at h
  cases v <;> simp at h
  exact ⟨_, rfl⟩
theorem wf_small {x : Int} (h1 : -4096 ≤ x) (h2 : x ≤ 4096) : (Lit.int .i64 x).wf = true := by
  have k1 : IntKind.i64.min = -9223372036854775808 := rfl
  have k2 : IntKind.i64.max = 9223372036854775807 := rfl
  simp only [Lit.wf, Bool.and_eq_true, decide_eq_true_eq]
  omega
theorem edgesY_append (l m : List R4) : edgesY (l ++ m) = edgesY l ++ edgesY m := List.flatMap_append
theorem edgesY_one (r : R4) : edgesY [r] = if rectEmptyS r then [] else [r.2.1, r.2.2.2] := by simp [edgesY]
theorem edgesY_len (l : List R4) : (edgesY l).length ≤ 2 * l.length := by
  induction l with
  | nil => simp [edgesY]
  | cons r l ih =>
    have e : edgesY (r :: l) = edgesY [r] ++ edgesY l := edgesY_append [r] l
    rw [e, List.length_append, edgesY_one, List.length_cons]
    split <;> simp <;> omega
theorem flat_take {α : Type} {ls : List (List α)} {i j : Nat} {l : List α} {x : α} (hl : ls[i]? = some l) (hx : l[j]? = some x) : (ls.take i).flatten ++ l.take (j + 1) = ((ls.take i).flatten ++ l.take j) ++ [x] := by
  rw [take_snocG hx, List.append_assoc]
theorem flat_next {α : Type} {ls : List (List α)} {i : Nat} {l : List α} (hl : ls[i]? = some l) : (ls.take (i + 1)).flatten = (ls.take i).flatten ++ l := by
  rw [take_snocG hl, List.flatten_append]; simp
theorem flat_le {α : Type} {ls : List (List α)} {i : Nat} {l : List α} (hl : ls[i]? = some l) (j : Nat) : ((ls.take i).flatten ++ l.take j).length ≤ ls.flatten.length := by
  have e : ls.flatten = (ls.take (i + 1)).flatten ++ (ls.drop (i + 1)).flatten := by rw [← List.flatten_append, List.take_append_drop]
  rw [e, flat_next hl, List.length_append, List.length_append, List.length_append, List.length_take]
  omega
theorem sorted_strict {l : List Int} (h : l.Pairwise (· ≤ ·)) (hn : l.Nodup) : l.Pairwise (· < ·) :=
  (h.and hn).imp fun ⟨h1, h2⟩ => by omega
set_option maxRecDepth 100000 in
set_option maxHeartbeats 1600000 in
theorem cuts_any (ls : List (List R4)) (ss : List (Option Addr × Nat × Nat)) (A : Option Addr) (n c : Nat) (w : World) (hn : ls.length = n) (hnb : n ≤ 1000) (hA : slE.At w A ss) (hS : RowsOf w ss ls) (hb : ls.flatten.length ≤ 1000000) :
    Calls Try.prog 74 #[.slice A n c] w fun e w' => ∃ v ys, e = .returned v ∧ Ext w w' ∧ intE.Own w' w.heap.size v ys ∧ ys.Pairwise (· < ·) ∧ (∀ y, y ∈ ys ↔ y ∈ edgesY ls.flatten) := by
  have hmm := @run_makeMap Try.prog
  have HN := Lib.hid hn
  have HB := Lib.hid hb
  have HEM := Lib.hid (fun a b c d W => pEmpty_any a b c d W)
  clear hn hb
  obtain ⟨B, hB⟩ : ∃ B, w.heap.size = B := ⟨_, rfl⟩
  have hown0 := World.ownsMap_made (H := Unit) w Try.prog 3 (plainElem Try.prog 4)
  have hE0 := Ext.alloc w (.map #[] 0)
  rw [hB] at hown0
  go_enter Try.func74, Try.ntmps74
  go_wp2_with fail
  have HBB := Lib.hid hB
  clear hB
  go_loopw [13] (fun i wr => ∃ k : Nat, k ≤ n ∧ i = .int .i64 k ∧ Ext w wr ∧ wr.ownsMap Try.prog 3 (plainElem Try.prog 4) B (edgesY (ls.take k).flatten).length (setI (H := Unit) (edgesY (ls.take k).flatten))) (fun i _ => n - (intOf i).toNat)
  case atStart => exact ⟨0, Nat.zero_le _, rfl, hE0, hown0⟩
  case round =>
    clear hown0 hE0
    obtain ⟨k, hk, rfl, hE, hown⟩ := hrel
    by_cases hlt : k < n
    · have dk : ((k : Int) < (n : Int)) = True := eq_true (by omega)
      obtain ⟨l, hlk⟩ : ∃ q, ls[k]? = some q := ⟨_, List.getElem?_eq_getElem (by rw [HN.out]; exact hlt)⟩
      obtain ⟨A1, n1, c1, hsk, hn1, hn1b, hat⟩ := hS.2 k l hlk
      obtain ⟨b, o, rfl⟩ := hA.addr hsk
      have e0 := hE.cell (hA.cellAt (j := 0) hsk rfl)
      simp only [slE, Nat.mul_one, Nat.add_zero] at e0
      have HK := Lib.hid hlk
      have HN1 := Lib.hid hn1
      clear hlk hsk hn1
      have HI := Lib.hid (show 1 ≤ 1 from Nat.le_refl _)
      go_wp2_with fail
      go_loopw [19] (fun i wr => ∃ j : Nat, j ≤ n1 ∧ i = .int .i64 j ∧ Ext w wr ∧ wr.ownsMap Try.prog 3 (plainElem Try.prog 4) B (edgesY ((ls.take k).flatten ++ l.take j)).length (setI (H := Unit) (edgesY ((ls.take k).flatten ++ l.take j)))) (fun i _ => n1 - (intOf i).toNat)
      case atStart => exact ⟨0, Nat.zero_le _, rfl, hE, by rw [List.take_zero, List.append_nil]; exact hown⟩
      case round =>
        clear hown hE e0
        obtain ⟨j, hj, rfl, hE, hown⟩ := hrel
        by_cases hlt2 : j < n1
        · have dk2 : ((j : Int) < (n1 : Int)) = True := eq_true (by omega)
          obtain ⟨⟨x0, x1, x2, x3⟩, hlj⟩ : ∃ q, l[j]? = some q := ⟨_, List.getElem?_eq_getElem (by rw [HN1.out]; exact hlt2)⟩
          obtain ⟨b', o', rfl⟩ := hat.addr hlj
          obtain ⟨e0, e1, e2, e3⟩ := rect_cell hat hlj
          replace e0 := hE.cell e0
          replace e1 := hE.cell e1
          replace e2 := hE.cell e2
          replace e3 := hE.cell e3
          dsimp only at e0 e1 e2 e3
          have HF := Lib.hid (flat_take HK.out hlj)
          have HL := Lib.hid (flat_le HK.out (j + 1))
          have HL0 := Lib.hid (flat_le HK.out j)
          clear hlj
          generalize hacc : (ls.take k).flatten ++ l.take j = acc at *
          have HAC := Lib.hid hacc
          clear hacc
          go_wp2_with fail
          have hEa := hE.trans (Ext.alloc wr (.cells #[.int .i64 x0, .int .i64 x1, .int .i64 x2, .int .i64 x3] 29))
          have b2 := Box.new wr 29 #[.int .i64 x0, .int .i64 x1, .int .i64 x2, .int .i64 x3]
          have hownA := mapExt hown (Ext.alloc wr (.cells #[.int .i64 x0, .int .i64 x1, .int .i64 x2, .int .i64 x3] 29))
          refine (HEM.out x0 x1 x2 x3 _).mono ?_
          rintro e w1 ⟨rfl, hE1⟩
          replace hEa := hEa.trans hE1
          replace hownA := mapExt hownA hE1
          replace b2 := b2.ext hE1
          clear hE1 e0 e1 e2 e3 hown hE
          have c2 := b2.cell
          cases hem : rectEmptyS (x0, x1, x2, x3)
          · have HX := Lib.hid (show edgesY (acc ++ [(x0, x1, x2, x3)]) = (edgesY acc ++ [x1]) ++ [x3] from by rw [edgesY_append, edgesY_one, hem, List.append_assoc]; rfl)
            have hbd := empty_false hem
            dsimp only at hbd
            have wf1 := wf_small hbd.2.2.1 (show x1 ≤ 4096 by omega)
            have wf3 := wf_small (show -4096 ≤ x3 by omega) hbd.2.2.2.1
            have hm1 : (edgesY acc).length + 1 < maxLen := by
              have := edgesY_len acc
              have := HB.out
              have h0 := HL0.out
              unfold maxLen
              omega
            have hm0 : (edgesY acc).length < maxLen := Nat.lt_of_succ_lt hm1
            clear hem hbd
            go_wp2_with fail
            obtain ⟨w2, hrun2, hown2, hg2⟩ := World.ownsMap.update (w := w1.drew) (hownA.drew) keyed_int Try.underlying69 hm0 (keyOf_int_mk Try.underlying3 wf1) boolR_true
            have b3 : Box w2 wr.heap.size 29 #[.int .i64 x0, .int .i64 x1, .int .i64 x2, .int .i64 x3] := boxGrown (w := w1.drew) b2 hg2 (fun e => by injection e with e; subst e; obtain ⟨es, cl, hmp, _⟩ := hownA; rw [show w1.heap[wr.heap.size]? = some _ from b2] at hmp; cases hmp)
            obtain ⟨w3, hrun3, hown3, hg3⟩ := hown2.update keyed_int Try.underlying69 hm1 (keyOf_int_mk Try.underlying3 wf3) boolR_true
            have hE3 := ((hEa.trans (Ext.drew w1)).grownAt hg2 (fun i hi => by injection hi with hi; rw [HBB.out, hi]; exact Nat.le_refl _)).grownAt hg3 (fun i hi => by injection hi with hi; rw [HBB.out, hi]; exact Nat.le_refl _)
            have c3 := b3.cell
            have HO3 := Lib.hid hown3
            clear hown2 hown3 hg2 hg3 hownA b2 b3
            go_region
            go_wp2
            go_roundw
            case rel => exact ⟨j + 1, by omega, by go_num, hE3, by rw [HF.out, HX.out, setI_snoc, setI_snoc, List.length_append, List.length_append]; exact HO3.out⟩
            case measure => simp [intOf]; omega
          · have HX := Lib.hid (show edgesY (acc ++ [(x0, x1, x2, x3)]) = edgesY acc from by rw [edgesY_append, edgesY_one, hem]; exact List.append_nil _)
            clear hem
            go_wp2
            go_roundw
            case rel => exact ⟨j + 1, by omega, by go_num, hEa, by rw [HF.out, HX.out]; exact hownA⟩
            case measure => simp [intOf]; omega
        · have dk2 : ((j : Int) < (n1 : Int)) = False := eq_false (by omega)
          have HF := Lib.hid (show (ls.take (k + 1)).flatten = (ls.take k).flatten ++ l.take j from by rw [flat_next HK.out, List.take_of_length_le (l := l) (by rw [HN1.out]; omega)])
          go_wp2
          go_roundw
          case rel => exact ⟨k + 1, by omega, by go_num, hE, by rw [HF.out]; exact hown⟩
          case measure => simp [intOf]; omega
    · have dk : ((k : Int) < (n : Int)) = False := eq_false (by omega)
      have HF := Lib.hid (show ls.take k = ls from List.take_of_length_le (by rw [HN.out]; omega))
      rw [HF.out] at hown
      have hlen : (edgesY ls.flatten).length ≤ 2000000 := by
        have := edgesY_len ls.flatten
        have := HB.out
        omega
      have HSZ := Lib.hid (setI_size (H := Unit) (edgesY ls.flatten))
      have HHAS := Lib.hid (setI_has (H := Unit) (edgesY ls.flatten))
      generalize hD : setI (H := Unit) (edgesY ls.flatten) = D at *
      generalize hM : (edgesY ls.flatten).length = M at *
      have hwB : w.heap.size ≤ wr.heap.size := hE.size
      clear hD hM
      go_wp2_with (first
        | (at_range; refine wpList_range_own _ rfl _ 69 rfl 3 4 keyed_int Try.underlying69 _ B M _ rfl hown ?_; intro w0 hrg0 hg0 hs0)
        | go_in)
      go_frame
      have hE0 := hE.grownAt hg0 (fun i hi => by cases hi)
      obtain ⟨Rr, hRr⟩ : ∃ Rr, wr.heap.size = Rr := ⟨_, rfl⟩
      rw [hRr] at hrg0 hwB ⊢
      have HRR := Lib.hid hRr
      clear hRr hs0 hg0 hown hE
      go_loopw [8] (fun s wr => ∃ (left : Lit → Bool) (cnt : Nat) (zs : List Int), wr.ranges Try.prog 3 (plainElem Try.prog 4) B Rr M D left cnt ∧ zs.length + cnt ≤ size D ∧ CollI D left zs ∧ Ext w wr ∧ intE.Own wr w.heap.size s zs)
        (fun _ wr => wr.rangeLeft B Rr)
      case atStart => exact ⟨_, _, [], hrg0, by simp, CollI.start D, hE0, EL.Own.nil _ _⟩
      case round =>
        clear hrg0 hE0
        obtain ⟨left, cnt, zs, hrg, hcs, hC, hE, hown⟩ := hrel
        go_wp2_with (first
          | (at_next; refine wpList_next_ranges _ rfl _ rfl 3 keyed_int _ (Value.int .i64) (fun i : Int => Value.bool (decide (i = 1))) (fun key kl hkey => by obtain ⟨x, rfl, _⟩ := Maps.keyOf_int_inv Try.underlying3 hkey; exact ⟨x, rfl⟩) (fun v y hv => by obtain ⟨c, rfl⟩ := boolR_inv hv; exact ⟨if c then 1 else 0, by cases c <;> rfl⟩) B Rr M _ _ _ rfl hrg ?_ ?_)
          | go_in)
        · intro hc0 hl0
          obtain ⟨hnd, hmem⟩ := hC.end hl0
          have hzs : zs.length ≤ 10000000 := by have := HSZ.out; omega
          obtain ⟨w1, hcl, hg1⟩ := run_clear_own hrg.owns Try.underlying69
          obtain ⟨A1, c1, rfl, _, _⟩ := hown.len
          have hnm := own_ne_map hown hrg
          have hown1 : intE.Own w1 w.heap.size _ zs := World.ownsRow.kept hown hg1 (.inr hnm.1)
          have hE1 := hE.grownAt hg1 (fun i hi => by injection hi with hi; rw [HBB.out, hi]; exact Nat.le_refl _)
          have HMEM := Lib.hid (fun y => (hmem y).trans (HHAS.out y))
          have HND := Lib.hid hnd
          have HG1 := Lib.hid hg1
          clear hg1 hmem hnd hcs hC hl0 hc0 hrg hown hE hnm
          go_wp2_with fail
          refine (sortInts_any hown1 hzs).mono ?_
          rintro e w2 ⟨rfl, ys, hp, hs, hown2, hg2⟩
          have hE2 := growExt hE1 hown1 (Nat.le_refl _) hg2
          have HP := Lib.hid hp
          clear hp hg2
          go_wp2
          go_ret
          exact ⟨_, ys, rfl, hE2, hown2, sorted_strict hs (HP.out.nodup_iff.2 HND.out), fun y => (HP.out.mem_iff).trans (HMEM.out y)⟩
        · intro x c kl yd yp w1 cnt1 hkey hlk hv hat hrg1 hlt1 hg1 hs1 hen
          obtain ⟨x', ex, rfl, hwx⟩ := Maps.keyOf_int_inv Try.underlying3 hkey
          cases ex
          have hC1 := hC.step hlk hat
          obtain ⟨A1, c1, rfl, _, _⟩ := hown.len
          have hnm := own_ne_map hown hrg
          have hown1 : intE.Own w1 w.heap.size _ zs := World.ownsRow.kept hown hg1 (.inr hnm.2)
          have hRB : w.heap.size ≤ Rr := hwB
          have hE1 := hE.grownAt hg1 (fun i hi => by injection hi with hi; omega)
          have HL1 := Lib.hid (show zs.length + 1 + cnt1 ≤ size D from by omega)
          have hzl : zs.length + 1 ≤ 1000000000 := by have := HSZ.out; omega
          have HRG := Lib.hid hrg
          have hMS := Lib.hid (show wr.rangeLeft B Rr = cnt from hrg.left_eq)
          clear hnm hg1 hs1 hat hlk hv hC hcs hown hE hrg
          have b2 := Box.new w1 3 #[.int .i64 x]
          have hrow := EL.rowOne (E := intE) b2 rfl
          have hEa := hE1.trans (Ext.alloc w1 (.cells #[.int .i64 x] 3))
          have hownA := hown1.ext (Ext.alloc w1 (.cells #[.int .i64 x] 3))
          have hrgA := rangesExt hrg1 (Ext.alloc w1 (.cells #[.int .i64 x] 3))
          have hsz := hEa.size
          go_wp2_with (at_builtin; refine EL.wpApp intE rfl _ _ rfl w.heap.size _ _ zs [x] rfl rfl hownA hrow hzl hsz ?_; intro v1 W1 own1 gr1 _)
          have hnm2 := own_ne_map hownA hrgA
          have hE2 := growExt hEa hownA (Nat.le_refl _) gr1
          have hrg2 := hrgA.kept gr1 (fun e => hnm2.1 e.symm) (fun e => hnm2.2 e.symm)
          go_roundw
          case rel => exact ⟨_, cnt1, zs ++ [x], hrg2, by rw [List.length_append]; exact HL1.out, hC1, hE2, own1⟩
          case measure => rw [hrg2.left_eq, hMS.out]; exact hlt1
end Go.Proofs.Ytkjpcjmbhpfelaa
