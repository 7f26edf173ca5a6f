/- The reference: put, edges, at, Contains, is, like. -/
import Derived.Test.YtkjpcjmbhpfelaaGreatRgEx
set_option linter.unusedVariables false
set_option linter.unusedSimpArgs false
namespace Go.Proofs.YtkjpcjmbhpfelaaGreat
open Go.RowKit Go.Par Go.Reg

/-- a sorted row of numbers of the window -/
def SetV (S : Int → Prop) (v : Value) (w : World) : Prop := ∃ X A n c, v = .slice A n c ∧ X.length = n ∧ n ≤ c ∧ intE.At w A X ∧ X.Pairwise (· < ·) ∧ (∀ x, x ∈ X ↔ S x) ∧ ∀ x ∈ X, -4096 ≤ x ∧ x ≤ 4096
theorem SetV.stable (S : Int → Prop) : Stable (SetV S) := fun v w w' ⟨X, A, n, c, h1, h2, h3, h4, h5⟩ he => ⟨X, A, n, c, h1, h2, h3, h4.ext he, h5⟩
theorem SetV.nil (w : World) : SetV (fun _ => False) (.slice none 0 0) w := ⟨[], none, 0, 0, rfl, rfl, Nat.le_refl _, EL.At.nil _ _, List.Pairwise.nil, fun x => by simp, fun x hx => by cases hx⟩
theorem SetV.congr {S T : Int → Prop} {v : Value} {w : World} (h : SetV S v w) (e : ∀ x, S x ↔ T x) : SetV T v w := by
  obtain ⟨X, A, n, c, h1, h2, h3, h4, h5, h6, h7⟩ := h
  exact ⟨X, A, n, c, h1, h2, h3, h4, h5, fun x => (h6 x).trans (e x), h7⟩
/-- the second half of put: what stands behind n so far -/
structure PutTo (l : List Int) (n : Int) (j : Nat) (out : List Int) : Prop where
  sorted : out.Pairwise (· < ·)
  mem : ∀ x, x ∈ out ↔ x = n ∨ x ∈ l.take j
  len : out.length ≤ j + 1
theorem PutTo.start {l : List Int} {n : Int} {i : Nat} (hl : l.Pairwise (· < ·)) (h : ∀ x ∈ l.take i, x < n) : PutTo l n i (l.take i ++ [n]) :=
  ⟨List.pairwise_append.2 ⟨hl.sublist (List.take_sublist _ _), List.pairwise_singleton _ _, fun x hx y hy => by rw [List.mem_singleton.1 hy]; exact h x hx⟩,
    fun x => by rw [List.mem_append, List.mem_singleton]; exact Or.comm, by rw [List.length_append, List.length_take]; simp; omega⟩
theorem PutTo.big {l : List Int} {n : Int} {j : Nat} {out : List Int} (h : PutTo l n j out) (hl : l.Pairwise (· < ·)) {x : Int} (hx : l[j]? = some x) (hn : n < x) : PutTo l n (j + 1) (out ++ [x]) := by
  refine ⟨List.pairwise_append.2 ⟨h.sorted, List.pairwise_singleton _ _, fun y hy z hz => ?_⟩, fun y => ?_, by rw [List.length_append]; have := h.len; simp; omega⟩
  · rw [List.mem_singleton.1 hz]
    rcases (h.mem y).1 hy with e | e
    · omega
    · obtain ⟨i, hi, rfl⟩ := List.getElem_of_mem e
      rw [List.length_take] at hi
      rw [List.getElem_take]
      obtain ⟨hj, e2⟩ := List.getElem?_eq_some_iff.1 hx
      have := List.pairwise_iff_getElem.1 hl i j (by omega) hj (by omega)
      omega
  · rw [List.mem_append, List.mem_singleton, h.mem, take_snocG hx, List.mem_append, List.mem_singleton, or_assoc]
theorem PutTo.small {l : List Int} {n : Int} {j : Nat} {out : List Int} (h : PutTo l n j out) {x : Int} (hx : l[j]? = some x) (hn : x = n) : PutTo l n (j + 1) out := by
  refine ⟨h.sorted, fun y => ?_, Nat.le_succ_of_le h.len⟩
  rw [h.mem, take_snocG hx, List.mem_append, List.mem_singleton, hn]
  constructor
  · rintro (e | e)
    · exact .inl e
    · exact .inr (.inl e)
  · rintro (e | e | e)
    · exact .inl e
    · exact .inr e
    · exact .inl e
set_option maxRecDepth 100000 in
set_option maxHeartbeats 1600000 in
theorem put_any (S : Int → Prop) (v : Value) (n : Int) (w : World) (h : SetV S v w) (hn : -4096 ≤ n ∧ n ≤ 4096) :
    Calls Tryz.prog 42 #[v, .int .i64 n] w fun e w' => ∃ v', e = .returned v' ∧ Ext w w' ∧ SetV (fun x => S x ∨ x = n) v' w' := by
  obtain ⟨l, A, N, c, rfl, hl, hc, hat, hs, hm, hw⟩ := h
  have HN := Lib.hid hl
  have HS := Lib.hid hs
  have HM := Lib.hid hm
  have HW := Lib.hid hw
  have hNb : N ≤ 8193 := by
    have := sorted_len hs (lo := -4096) (hi := 4096) hw (by omega)
    omega
  have HNW := Lib.hid hn
  clear hl hs hm hw hn
  have hE0 := Ext.alloc w (.cells #[] 3)
  have hown0 := EL.Own.made (E := intE) w
  go_enter Tryz.func42, Tryz.ntmps42
  go_wp2_with fail
  go_loopw [5, 6] (fun s i wr => ∃ k : Nat, k ≤ N ∧ i = .int .i64 k ∧ Ext w wr ∧ intE.Own wr w.heap.size s (l.take k) ∧ Hid (∀ x ∈ l.take k, x < n)) (fun _ i _ => N - (intOf i).toNat)
  case atStart => exact ⟨0, Nat.zero_le _, rfl, hE0, by rw [List.take_zero]; exact hown0, Lib.hid (by simp)⟩
  case round =>
    clear hE0 hown0
    obtain ⟨k, hk, rfl, hE, hown, HLT⟩ := hrel
    have go2 : True := trivial
    by_cases hlt : k < N
    · have dk : ((k : Int) < (N : Int)) = True := eq_true (by omega)
      obtain ⟨x, hlk⟩ : ∃ q, l[k]? = some q := ⟨_, List.getElem?_eq_getElem (by rw [HN.out]; exact hlt)⟩
      obtain ⟨b, o, rfl⟩ := hat.addr hlk
      have e0 := hE.cell (int_cell hat hlk)
      have HLK := Lib.hid hlk
      clear hlk
      by_cases hx : x < n
      · have dx : (x < n) = True := eq_true hx
        have HT := Lib.hid (take_snocG HLK.out)
        have HLT2 := Lib.hid (show ∀ y ∈ l.take (k + 1), y < n from fun y hy => by
          rw [HT.out, List.mem_append, List.mem_singleton] at hy
          rcases hy with hy | hy
          · exact HLT.out y hy
          · rw [hy]; exact hx)
        have hlen : (l.take k).length = k := by rw [List.length_take, HN.out]; omega
        have HLL := Lib.hid (show (l.take k).length + ([x] : List Int).length ≤ 1000000000 from by rw [hlen]; simp; omega)
        have hEa := hE.trans (Ext.alloc wr (.cells #[.int .i64 x] 3))
        have hownA := hown.ext (Ext.alloc wr (.cells #[.int .i64 x] 3))
        have hrow := EL.rowOne (E := intE) (x := x) (Box.new wr 3 #[.int .i64 x]) rfl
        have hsz := hEa.size
        clear hx hlen
        go_wp2_with (at_builtin; refine EL.wpApp intE rfl _ _ rfl w.heap.size _ _ (l.take k) [x] rfl rfl hownA hrow HLL.out hsz ?_; intro v1 W1 own1 gr1 _)
        have hE2 := growExt hEa hownA (Nat.le_refl _) gr1
        go_roundw
        case rel => exact ⟨k + 1, by omega, by go_num, hE2, by rw [HT.out]; exact own1, HLT2⟩
        case measure => simp [intOf]; omega
      · have dx : (x < n) = False := eq_false hx
        have HX := Lib.hid hx
        clear hx
        have hlen : (l.take k).length = k := by rw [List.length_take, HN.out]; omega
        have HLL := Lib.hid (show (l.take k).length + ([n] : List Int).length ≤ 1000000000 from by rw [hlen]; simp; omega)
        have hEa := hE.trans (Ext.alloc wr (.cells #[.int .i64 n] 3))
        have hownA := hown.ext (Ext.alloc wr (.cells #[.int .i64 n] 3))
        have hrow := EL.rowOne (E := intE) (x := n) (Box.new wr 3 #[.int .i64 n]) rfl
        have hsz := hEa.size
        have HP := Lib.hid (PutTo.start HS.out HLT.out)
        have HGE := Lib.hid (show ∀ j y, k ≤ j → l[j]? = some y → n ≤ y from fun j y hj hy => by
          obtain ⟨hj2, e2⟩ := List.getElem?_eq_some_iff.1 hy
          obtain ⟨hk2, e1⟩ := List.getElem?_eq_some_iff.1 HLK.out
          have hx' := HX.out
          rcases Nat.lt_or_ge k j with k3 | k3
          · have := List.pairwise_iff_getElem.1 HS.out k j hk2 hj2 k3; omega
          · have : j = k := by omega
            subst this; omega)
        clear hlen
        go_wp2_with (at_builtin; refine EL.wpApp intE rfl _ _ rfl w.heap.size _ _ (l.take k) [n] rfl rfl hownA hrow HLL.out hsz ?_; intro v1 W1 own1 gr1 _)
        have hE2 := growExt hEa hownA (Nat.le_refl _) gr1
        generalize wr = wo at *
        go_wp2_with fail
        go_loopw [5, 6] (fun s i wr => ∃ (j : Nat) (out : List Int), k ≤ j ∧ j ≤ N ∧ i = .int .i64 j ∧ Ext w wr ∧ intE.Own wr w.heap.size s out ∧ out.length ≤ j + 1 ∧ Hid (PutTo l n j out)) (fun _ i _ => N - (intOf i).toNat)
        case atStart => exact ⟨k, _, Nat.le_refl _, hk, rfl, hE2, own1, by rw [List.length_append, List.length_take]; simp; omega, HP⟩
        case round =>
          clear hE2 own1 hownA hown hE hEa hrow gr1 HLL
          obtain ⟨j, out, hkj, hj, rfl, hE, hown, hol, HQ⟩ := hrel
          by_cases hlt2 : j < N
          · have dj : ((j : Int) < (N : Int)) = True := eq_true (by omega)
            obtain ⟨x2, hlj⟩ : ∃ q, l[j]? = some q := ⟨_, List.getElem?_eq_getElem (by rw [HN.out]; exact hlt2)⟩
            obtain ⟨b2, o2, eA⟩ := hat.addr hlj
            injection eA with eA; injection eA with eA1 eA2; subst eA1 eA2
            have f0 := hE.cell (int_cell hat hlj)
            have hge := HGE.out j x2 hkj hlj
            have HLJ := Lib.hid hlj
            clear hlj
            by_cases hx2 : n < x2
            · have dx2 : (n < x2) = True := eq_true hx2
              have HP2 := Lib.hid (HQ.out.big HS.out HLJ.out hx2)
              have HLL2 := Lib.hid (show out.length + ([x2] : List Int).length ≤ 1000000000 from by simp; omega)
              have hEb := hE.trans (Ext.alloc wr (.cells #[.int .i64 x2] 3))
              have hownB := hown.ext (Ext.alloc wr (.cells #[.int .i64 x2] 3))
              have hrow := EL.rowOne (E := intE) (x := x2) (Box.new wr 3 #[.int .i64 x2]) rfl
              have hsz := hEb.size
              clear hx2 hge
              go_wp2_with (at_builtin; refine EL.wpApp intE rfl _ _ rfl w.heap.size _ _ out [x2] rfl rfl hownB hrow HLL2.out hsz ?_; intro v2 W2 own2 gr2 _)
              have hE3 := growExt hEb hownB (Nat.le_refl _) gr2
              go_roundw
              case rel => exact ⟨j + 1, _, by omega, by omega, by go_num, hE3, own2, by rw [List.length_append]; simp; omega, HP2⟩
              case measure => simp [intOf]; omega
            · have dx2 : (n < x2) = False := eq_false hx2
              have HP2 := Lib.hid (HQ.out.small HLJ.out (by omega))
              clear hx2 hge
              go_wp2
              go_roundw
              case rel => exact ⟨j + 1, out, by omega, by omega, by go_num, hE, hown, by omega, HP2⟩
              case measure => simp [intOf]; omega
          · have dj : ((j : Int) < (N : Int)) = False := eq_false (by omega)
            have HF := Lib.hid (show l.take j = l from List.take_of_length_le (by rw [HN.out]; omega))
            obtain ⟨_, _, e3, hcc, hat3⟩ := hown.at (n := out.length) rfl (by omega)
            have HRES := Lib.hid (show (∀ x, x ∈ out ↔ (x ∈ l ∨ x = n)) from fun x => by rw [HQ.out.mem, HF.out]; exact Or.comm)
            obtain ⟨A3, c3, rfl, hc3, _⟩ := hown.len
            injection e3 with e3 _ e3'
            subst e3 e3'
            go_wp2
            go_ret
            exact ⟨_, rfl, hE, out, A3, out.length, c3, rfl, rfl, hc3, hat3, HQ.out.sorted, fun x => by rw [HRES.out, HM.out], fun x hx => by
              rcases (HRES.out x).1 hx with h | h
              · exact HW.out x h
              · rw [h]; exact HNW.out⟩
    · have dk : ((k : Int) < (N : Int)) = False := eq_false (by omega)
      have hlen : (l.take k).length = k := by rw [List.length_take, HN.out]; omega
      have HLL := Lib.hid (show (l.take k).length + ([n] : List Int).length ≤ 1000000000 from by rw [hlen]; simp; omega)
      have hEa := hE.trans (Ext.alloc wr (.cells #[.int .i64 n] 3))
      have hownA := hown.ext (Ext.alloc wr (.cells #[.int .i64 n] 3))
      have hrow := EL.rowOne (E := intE) (x := n) (Box.new wr 3 #[.int .i64 n]) rfl
      have hsz := hEa.size
      have HP := Lib.hid (PutTo.start HS.out HLT.out)
      have HGE := Lib.hid (show ∀ j y, k ≤ j → l[j]? = some y → n ≤ y from fun j y hj hy => by
        have := (List.getElem?_eq_some_iff.1 hy).1
        rw [HN.out] at this
        omega)
      clear hlen
      go_wp2_with (at_builtin; refine EL.wpApp intE rfl _ _ rfl w.heap.size _ _ (l.take k) [n] rfl rfl hownA hrow HLL.out hsz ?_; intro v1 W1 own1 gr1 _)
      have hE2 := growExt hEa hownA (Nat.le_refl _) gr1
      generalize wr = wo at *
      go_wp2_with fail
      go_loopw [5, 6] (fun s i wr => ∃ (j : Nat) (out : List Int), k ≤ j ∧ j ≤ N ∧ i = .int .i64 j ∧ Ext w wr ∧ intE.Own wr w.heap.size s out ∧ out.length ≤ j + 1 ∧ Hid (PutTo l n j out)) (fun _ i _ => N - (intOf i).toNat)
      case atStart => exact ⟨k, _, Nat.le_refl _, hk, rfl, hE2, own1, by rw [List.length_append, List.length_take]; simp; omega, HP⟩
      case round =>
        clear hE2 own1 hownA hown hE hEa hrow gr1 HLL
        obtain ⟨j, out, hkj, hj, rfl, hE, hown, hol, HQ⟩ := hrel
        by_cases hlt2 : j < N
        · exact absurd hlt2 (by omega)
        · have dj : ((j : Int) < (N : Int)) = False := eq_false (by omega)
          have HF := Lib.hid (show l.take j = l from List.take_of_length_le (by rw [HN.out]; omega))
          obtain ⟨_, _, e3, hcc, hat3⟩ := hown.at (n := out.length) rfl (by omega)
          have HRES := Lib.hid (show (∀ x, x ∈ out ↔ (x ∈ l ∨ x = n)) from fun x => by rw [HQ.out.mem, HF.out]; exact Or.comm)
          obtain ⟨A3, c3, rfl, hc3, _⟩ := hown.len
          injection e3 with e3 _ e3'
          subst e3 e3'
          go_wp2
          go_ret
          exact ⟨_, rfl, hE, out, A3, out.length, c3, rfl, rfl, hc3, hat3, HQ.out.sorted, fun x => by rw [HRES.out, HM.out], fun x hx => by
            rcases (HRES.out x).1 hx with h | h
            · exact HW.out x h
            · rw [h]; exact HNW.out⟩
end Go.Proofs.YtkjpcjmbhpfelaaGreat
