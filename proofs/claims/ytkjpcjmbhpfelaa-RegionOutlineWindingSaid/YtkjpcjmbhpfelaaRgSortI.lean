/- Rows of numbers sorted and compacted by the library. -/
import Derived.Test.YtkjpcjmbhpfelaaRgSort
set_option linter.unusedVariables false
set_option linter.unusedSimpArgs false
namespace Go.Proofs.Ytkjpcjmbhpfelaa
open Go.RowKit Go.Par Go.Reg Go.Sort Go.Lib
theorem intE_cells (l : List Int) : intE.cells l = l.map (fun x => Value.int .i64 x) := by
  induction l with
  | nil => rfl
  | cons x l ih => rw [EL.cells_cons, ih]; rfl
theorem ext_grow (W : World) (os : Array Obj) : Ext W (grow W os) :=
  ⟨rfl, rfl, rfl, by simp [grow], fun k hk => by simp [grow, Array.getElem?_append_left hk]⟩
theorem grown_putRow {α : Type} [Inhabited α] {w : World} {g : Nat} (enc : α → Value) (off m : Nat) (d : Array α) (os : Array Obj) : w.grownBy (grow (putRow enc (Sort.ahead w m) g off d) os) (some g) := by
  have h := ext_grow (putRow enc (Sort.ahead w m) g off d) os
  have hs : (putRow enc (Sort.ahead w m) g off d).heap.size = w.heap.size := by show (w.heap.modify g _).size = _; rw [Array.size_modify]
  refine ⟨rfl, rfl, rfl, by have := h.size; omega, fun k hk hne => ?_⟩
  rw [Below.block h k (by omega)]
  show (w.heap.modify g _)[k]? = _
  rw [Array.getElem?_modify, if_neg (fun e => hne (by rw [e]))]
theorem intOwn_holds {w : World} {B g n cap : Nat} {l : List Int} (h : intE.Own w B (.slice (some ⟨g, 0, none⟩) n cap) l) : Holds (Value.int .i64) w g 0 l.toArray := fun j hj => by
  have hj' : j < l.length := by simpa using hj
  rw [Nat.zero_add]
  have h1 := h.cell (i := j) (j := 0) (List.getElem?_eq_getElem hj') rfl
  have e1 : intE.size = 1 := rfl
  rw [e1, Nat.mul_one, Nat.add_zero] at h1
  refine ⟨?_, h.frozen⟩
  rw [h1, getElem!_pos l.toArray j hj]
  rfl
theorem intOwn_put {w : World} {B g n cap : Nat} {l : List Int} (h : intE.Own w B (.slice (some ⟨g, 0, none⟩) n cap) l) (d : Array Int) (hd : d.size = n) (m : Nat) : intE.Own (putRow (Value.int .i64) (Sort.ahead w m) g 0 d) B (.slice (some ⟨g, 0, none⟩) n cap) d.toList := by
  obtain ⟨cur, hl, hb, hg, hcap, hm, hs, hc⟩ := h.opened
  refine EL.Own.mk (cur := putCells (Value.int .i64) 0 d cur) (by simp [hd]) hb ?_ hcap hm (by rw [← hs]; simp [putCells]) fun j v hv => ?_
  · unfold Box at hg ⊢
    show (w.heap.modify g _)[g]? = _
    rw [Array.getElem?_modify, if_pos rfl, hg]
    rfl
  · rw [intE_cells, List.getElem?_map] at hv
    obtain ⟨y, hy⟩ : ∃ y, d.toList[j]? = some y := by
      cases hq : d.toList[j]? with
      | none => rw [hq] at hv; cases hv
      | some y => exact ⟨y, rfl⟩
    rw [hy] at hv
    have hj := (List.getElem?_eq_some_iff.1 hy).1
    rw [Array.length_toList] at hj
    have hjc : j < cur.size := by rw [hs]; simp [intE]; omega
    unfold putCells
    rw [Array.getElem?_mapIdx, Array.getElem?_eq_getElem hjc]
    simp only [Option.map_some]
    rw [if_pos ⟨Nat.zero_le _, by omega⟩, Nat.sub_zero, getElem!_pos d j hj]
    rw [← hv]
    rw [Array.getElem?_toList, Array.getElem?_eq_getElem hj] at hy
    injection hy with hy
    rw [hy]
    rfl
theorem sortInts_any {w : World} {B : Nat} {v : Value} {l : List Int} (h : intE.Own w B v l) (hn : l.length ≤ 10000000) :
    Calls Try.prog 63 #[v] w fun e w' => e = .returned (.tuple #[]) ∧ ∃ l', l'.Perm l ∧ l'.Pairwise (· ≤ ·) ∧ intE.Own w' B v l' ∧ w.grownBy w' v.ownBlock := by
  rcases Nat.eq_zero_or_pos l.length with h0 | h0
  · have e : l = [] := List.eq_nil_of_length_eq_zero h0
    subst e
    obtain ⟨A, c, rfl, _, _⟩ := h.len
    refine (Any.slices_Sort_int_none Try.laysSort A c w).mono fun e w' ⟨h1, h2⟩ => ?_
    subst h2
    exact ⟨h1, [], List.Perm.refl _, List.Pairwise.nil, h, ⟨rfl, rfl, rfl, Nat.le_refl _, fun _ _ _ => rfl⟩⟩
  · obtain ⟨g, cap, rfl, hb, hcap⟩ := h.head h0
    refine (Any.slices_Sort_int Try.laysSort g 0 cap l w (intOwn_holds h) h.lt (by omega)).mono ?_
    rintro e w' ⟨rfl, m, os, rfl⟩
    have hp := List.mergeSort_perm l (fun x y => decide (x ≤ y))
    refine ⟨rfl, l.mergeSort (fun x y => decide (x ≤ y)), hp, ?_, ?_, grown_putRow _ _ _ _ _⟩
    · have := List.pairwise_mergeSort (le := fun x y : Int => decide (x ≤ y)) (fun a b c h1 h2 => by simp only [decide_eq_true_eq] at *; omega) (fun a b => by simp only [Bool.or_eq_true, decide_eq_true_eq]; omega) l
      exact this.imp fun h => by simpa using h
    · exact (intOwn_put h _ (by rw [List.size_toArray, hp.length_eq]) m).ext (ext_grow _ os)
theorem compact_sorted {zs : List Int} (hs : zs.Pairwise (· ≤ ·)) : (Lib.compact zs).Pairwise (· < ·) ∧ ∀ x, x ∈ Lib.compact zs ↔ x ∈ zs := by
  have key : ∀ m, m ≤ zs.length → (compactUpTo zs.toArray m).Pairwise (· < ·) ∧ (∀ x, x ∈ compactUpTo zs.toArray m ↔ x ∈ zs.take m) := fun m => by
    induction m with
    | zero => intro _; simp [compactUpTo]
    | succ m ih =>
      intro hm
      obtain ⟨h1, h2⟩ := ih (by omega)
      have hlt : m < zs.length := hm
      have hx : zs.toArray[m]! = zs[m] := by rw [getElem!_pos zs.toArray m (by simpa using hlt)]; simp
      have ht : zs.take (m + 1) = zs.take m ++ [zs[m]] := by rw [List.take_add_one, List.getElem?_eq_getElem hlt]; rfl
      have hle : ∀ x ∈ zs.take m, x ≤ zs[m] := fun x hxm => by
        obtain ⟨i, hi, rfl⟩ := List.getElem_of_mem hxm
        rw [List.getElem_take]
        rw [List.length_take] at hi
        exact List.pairwise_iff_getElem.1 hs i m (by omega) hlt (by omega)
      rw [compactUpTo_succ, ht, hx]
      by_cases hk : keeps zs.toArray m = true
      · rw [if_pos hk]
        have hlt2 : ∀ x ∈ zs.take m, x < zs[m] := fun x hxm => by
          have h3 := hle x hxm
          obtain ⟨i, hi, rfl⟩ := List.getElem_of_mem hxm
          rw [List.getElem_take] at h3 ⊢
          rw [List.length_take] at hi
          have h0 : m ≠ 0 := by omega
          have hne : zs[m] ≠ zs[m - 1] := by
            unfold keeps at hk
            simp only [decide_eq_true_eq] at hk
            rcases hk with hk | hk
            · omega
            · rw [hx, getElem!_pos zs.toArray (m - 1) (by simp; omega)] at hk
              simpa using hk
          have h4 := List.pairwise_iff_getElem.1 hs (m - 1) m (by omega) hlt (by omega)
          rcases Nat.lt_or_ge i (m - 1) with k | k
          · have := List.pairwise_iff_getElem.1 hs i (m - 1) (by omega) (by omega) k; omega
          · have : i = m - 1 := by omega
            subst this; omega
        refine ⟨List.pairwise_append.2 ⟨h1, List.pairwise_singleton _ _, fun x hx y hy => by rw [List.mem_singleton.1 hy]; exact hlt2 x ((h2 x).1 hx)⟩, fun x => ?_⟩
        rw [List.mem_append, List.mem_append, h2]
      · rw [if_neg hk, List.append_nil]
        refine ⟨h1, fun x => ?_⟩
        rw [h2, List.mem_append, List.mem_singleton]
        refine ⟨.inl, fun e => e.elim id fun e => ?_⟩
        subst e
        unfold keeps at hk
        simp only [decide_eq_true_eq, not_or, ne_eq, Decidable.not_not] at hk
        obtain ⟨k0, k1⟩ := hk
        have hm1 : m - 1 < zs.length := by omega
        rw [hx, getElem!_pos zs.toArray (m - 1) (by simpa using hm1)] at k1
        have k2 : zs[m] = zs[m - 1] := by simpa using k1
        rw [k2, List.mem_take_iff_getElem]
        exact ⟨m - 1, by omega, rfl⟩
  have := key zs.length (Nat.le_refl _)
  rw [List.take_length] at this
  exact this
theorem compInts_any {w : World} {B : Nat} {v : Value} {l : List Int} (h : intE.Own w B v l) (hn : l.length ≤ 10000000) (hs : l.Pairwise (· ≤ ·)) :
    Calls Try.prog 88 #[v] w fun e w' => ∃ v' l', e = .returned v' ∧ l'.Pairwise (· < ·) ∧ (∀ x, x ∈ l' ↔ x ∈ l) ∧ l'.length ≤ l.length ∧ intE.Own w' B v' l' ∧ w.grownBy w' v.ownBlock := by
  rcases Nat.eq_zero_or_pos l.length with h0 | h0
  · have e : l = [] := List.eq_nil_of_length_eq_zero h0
    subst e
    obtain ⟨A, c, rfl, _, _⟩ := h.len
    refine (Any.slices_Compact_int_empty Try.laysComp A c w).mono fun e w' ⟨h1, h2⟩ => ?_
    subst h2
    exact ⟨_, [], h1, List.Pairwise.nil, fun x => Iff.rfl, Nat.le_refl _, h, ⟨rfl, rfl, rfl, Nat.le_refl _, fun _ _ _ => rfl⟩⟩
  · obtain ⟨g, cap, rfl, hb, hcap⟩ := h.head h0
    refine (Any.slices_Compact_int Try.laysComp g 0 cap l w (intOwn_holds h) (by omega) hcap).mono ?_
    rintro e w' ⟨rfl, q, rfl⟩
    obtain ⟨k1, k2⟩ := compact_sorted hs
    have hlen : (Lib.compact l).length ≤ l.length := by
      have hnd : (Lib.compact l).Nodup := k1.imp fun h => by omega
      unfold Lib.compact compactUpTo
      rw [List.length_map]
      have := List.length_filter_le (keeps l.toArray) (List.range l.length)
      rw [List.length_range] at this
      exact this
    have hput := intOwn_put h (Lib.compact l ++ List.replicate (l.length - (Lib.compact l).length) 0).toArray (by simp; omega) q
    have hcut := EL.Own.cut (k := (Lib.compact l).length) hput hlen
    refine ⟨_, Lib.compact l, rfl, k1, k2, hlen, ?_, ?_⟩
    · simpa using hcut
    · have := grown_putRow (w := w) (g := g) (Value.int .i64) 0 q (Lib.compact l ++ List.replicate (l.length - (Lib.compact l).length) 0).toArray #[]
      have e : ∀ W : World, grow W #[] = W := fun W => by simp [grow]
      rw [e] at this
      exact this
end Go.Proofs.Ytkjpcjmbhpfelaa
