/- slices.Reverse at points, off the kit's shelf; polygon.Reverse and the reference's; Orient in both; rings compared. -/
import Derived.Test.YthfeamlioiaebaaRows2
import Derived.Test.YthfeamlioiaebaaRingLaw
import Derived.Shelf.SlicesQ.Reverse
import Derived.Ground.SlgnProg
set_option linter.unusedVariables false
set_option linter.unusedSimpArgs false
namespace Go.Proofs
open Go.Shelf Go.Lib
def Try.reversePt_ren : Go.Shelf.Ren := ⟨fun | 35 => 68 | n => n, fun | 22 => 38 | 23 => 24 | 3 => 3 | 4 => 4 | 0 => 0 | n => n, fun | n => n⟩
theorem Try.reversePt : Go.Proofs.SlLaysE0.n35 Try.prog Try.reversePt_ren := {
  mixed := by kernel_rfl
  f35 := ⟨Try.f68.name, by decide, Try.func68.trans (congrArg some (by kernel_rfl))⟩
  t0 := Try.underlying0
  a0 := Try.isAgg0
  z0 := Try.sizeOf0
  v0 := Try.zeroValue0
  t3 := Try.underlying3
  a3 := Try.isAgg3
  z3 := Try.sizeOf3
  v3 := Try.zeroValue3
  t4 := Try.underlying4
  a4 := Try.isAgg4
  z4 := Try.sizeOf4
  v4 := Try.zeroValue4
  t22 := Try.underlying38
  a22 := Try.isAgg38
  z22 := Try.sizeOf38
  v22 := Try.zeroValue38 }
end Go.Proofs
namespace Go.Proofs.Ythfeamlioiaebaa
open Go.RowKit Go.Par Go.Sort

def encPt (p : P2) : List Value := [.int .i64 p.1, .int .i64 p.2]
theorem encPt_len (p : P2) : (encPt p).length = 2 := rfl
theorem encPt_one (p : P2) : ∀ v ∈ encPt p, v.oneCell' = true := fun v hv => by
  simp [encPt] at hv
  rcases hv with rfl | rfl <;> rfl
theorem aggPt (w : World) : (isAgg 24).run Try.prog w = .ok true w := by kernel_rfl
theorem sizePt (w : World) : (Go.sizeOf 24).run Try.prog w = .ok 2 w := by kernel_rfl
/-- cell j of a row of points -/
theorem flat_get (d : Array P2) (j : Nat) (hj : j < d.size * 2) : ∃ i p, d[i]? = some p ∧ (j = i * 2 ∧ (flatK encPt 2 d)[j]! = .int .i64 p.1 ∨ j = i * 2 + 1 ∧ (flatK encPt 2 d)[j]! = .int .i64 p.2) := by
  have hi : j / 2 < d.size := by omega
  refine ⟨j / 2, d[j / 2], Array.getElem?_eq_getElem hi, ?_⟩
  rw [get_flatK encPt 2 d j hj, getElem!_pos d _ hi]
  rcases Nat.mod_two_eq_zero_or_one j with h | h
  · rw [h]
    exact .inl ⟨by omega, rfl⟩
  · rw [h]
    exact .inr ⟨by omega, rfl⟩
section
variable {w : World} {B g n cap : Nat} {l : List P2}
theorem own_open (h : Own w B (.slice (some ⟨g, 0, none⟩) n cap) l) : ∃ cur, n = l.length ∧ B ≤ g ∧ w.heap[g]? = some (.cells cur 24 (0, 0)) ∧ n ≤ cap ∧ cap ≤ maxLen ∧ cur.size = cap * 2 ∧ cur.toList.take (n * 2) = ptCells l := by
  rcases h.2 with ⟨e, _⟩ | ⟨g', cap', cur, e, hb, hg, h1, h2, h3, h4⟩
  · cases e
  · simp only [Value.slice.injEq, Option.some.injEq, Addr.mk.injEq] at e
    obtain ⟨⟨rfl, _, _⟩, rfl, rfl⟩ := e
    exact ⟨cur, rfl, hb, hg, h1, h2, h3, h4⟩
theorem own_holds (h : Own w B (.slice (some ⟨g, 0, none⟩) n cap) l) (k : Nat) (hk : k ≤ n) : HoldsK encPt 2 w g (k * 2) (l.drop k).toArray := by
  obtain ⟨cur, rfl, _, hg, _, _, hs, ht⟩ := own_open h
  intro j hj
  rw [size_flatK, List.size_toArray, List.length_drop] at hj
  have hcell : ∀ i v, (ptCells l)[i]? = some v → w.cell? ⟨g, i, none⟩ = some v ∧ w.frozen? ⟨g, i, none⟩ = false := fun i v hv => by
    have hB : Box w g 24 cur := hg
    rw [hB.cell, hB.frozen]
    refine ⟨?_, rfl⟩
    rw [← ht] at hv
    rw [List.getElem?_take] at hv
    split at hv
    · simpa using hv
    · cases hv
  obtain ⟨i, p, hp, hh⟩ := flat_get (l.drop k).toArray j (by rw [List.size_toArray, List.length_drop]; exact hj)
  rw [List.getElem?_toArray, List.getElem?_drop] at hp
  have hc := ptCells_at hp
  rcases hh with ⟨rfl, e⟩ | ⟨rfl, e⟩
  · rw [e]
    rw [show k * 2 + i * 2 = (k + i) * 2 by omega]
    exact hcell _ _ hc.1
  · rw [e]
    rw [show k * 2 + (i * 2 + 1) = (k + i) * 2 + 1 by omega]
    exact hcell _ _ hc.2
theorem heap_putRowK {cur : Array Value} (h : w.heap[g]? = some (.cells cur 24 (0, 0))) (off m : Nat) (d : Array P2) : (putRowK encPt 2 (Sort.ahead w m) g off d).heap[g]? = some (.cells (putCells id off (flatK encPt 2 d) cur) 24 (0, 0)) := by
  show (w.heap.modify g (onCells _))[g]? = _
  rw [Array.getElem?_modify, if_pos rfl, h]
  rfl
theorem but_putRowK (off m : Nat) (d : Array P2) : But g w (putRowK encPt 2 (Sort.ahead w m) g off d) := by
  refine ⟨rfl, rfl, rfl, ?_, fun k hk hne => ?_⟩
  · show w.heap.size ≤ (w.heap.modify g _).size
    simp
  · show (w.heap.modify g _)[k]? = _
    rw [Array.getElem?_modify, if_neg (fun e => hne e.symm)]
theorem own_put (h : Own w B (.slice (some ⟨g, 0, none⟩) n cap) l) (k : Nat) (hk : k ≤ n) (d : Array P2) (hd : d.size = n - k) (m : Nat) :
    Own (putRowK encPt 2 (Sort.ahead w m) g (k * 2) d) B (.slice (some ⟨g, 0, none⟩) n cap) (l.take k ++ d.toList) := by
  obtain ⟨cur, rfl, hb, hg, h1, h2, hs, ht⟩ := own_open h
  have hlen : (l.take k ++ d.toList).length = l.length := by simp [hd]; omega
  refine ⟨ptCells_length _, .inr ⟨g, cap, _, by rw [hlen], hb, heap_putRowK hg _ _ _, by rw [hlen]; exact h1, h2, ?_, ?_⟩⟩
  · unfold putCells
    rw [Array.size_mapIdx, hs]
  · rw [hlen]
    refine List.ext_getElem? fun j => ?_
    by_cases hj : j < l.length * 2
    · rw [List.getElem?_take, if_pos hj]
      unfold putCells
      rw [Array.getElem?_toList, Array.getElem?_mapIdx, size_flatK, hd]
      have hjc : j < cur.size := by omega
      have hold : cur[j]? = (ptCells l)[j]? := by rw [← ht, List.getElem?_take, if_pos hj, Array.getElem?_toList]
      rw [hold]
      obtain ⟨v, hv⟩ : ∃ v, (ptCells l)[j]? = some v := ⟨_, List.getElem?_eq_getElem (by rw [ptCells_length]; exact hj)⟩
      rw [hv]
      simp only [Option.map_some, id]
      by_cases hkj : k * 2 ≤ j
      · rw [if_pos (by omega)]
        obtain ⟨i, p, hp, hh⟩ := flat_get d (j - k * 2) (by omega)
        have hp' : (l.take k ++ d.toList)[k + i]? = some p := by
          rw [List.getElem?_append_right (by rw [List.length_take]; omega), List.length_take, show k + i - min k l.length = i by omega]
          simpa using hp
        have hc := ptCells_at hp'
        rcases hh with ⟨e1, e⟩ | ⟨e1, e⟩
        · rw [e, show j = (k + i) * 2 by omega]
          exact hc.1.symm
        · rw [e, show j = (k + i) * 2 + 1 by omega]
          exact hc.2.symm
      · rw [if_neg (by omega)]
        obtain ⟨i, p, hp, hh⟩ := ptCells_at' hv
        have hi : i < k := by omega
        have hp' : (l.take k ++ d.toList)[i]? = some p := by
          rw [List.getElem?_append_left (by rw [List.length_take]; omega), List.getElem?_take, if_pos hi]
          exact hp
        have hc := ptCells_at hp'
        rcases hh with ⟨e1, e⟩ | ⟨e1, e⟩
        · rw [e1, e]
          exact hc.1.symm
        · rw [e1, e]
          exact hc.2.symm
    · rw [List.getElem?_eq_none (by rw [List.length_take]; omega), List.getElem?_eq_none (by rw [ptCells_length, hlen]; omega)]
/-- slices.Reverse on the back part of a row of the call's own -/
theorem sReverse_any (h : Own w B (.slice (some ⟨g, 0, none⟩) n cap) l) (k c : Nat) (hk : k ≤ n) (hn : n ≤ 1000000) :
    Calls Try.prog 68 #[.slice (some ⟨g, k * 2, none⟩) (n - k) c] w fun e w' => e = .returned (.tuple #[]) ∧ Own w' B (.slice (some ⟨g, 0, none⟩) n cap) (l.take k ++ (l.drop k).reverse) ∧ But g w w' := by
  have hl := (own_open h).choose_spec.1
  have hs : (l.drop k).toArray.size = n - k := by rw [List.size_toArray, List.length_drop, ← hl]
  have hcon := AnyQ.slices_Reverse Try.reversePt 2 aggPt sizePt encPt encPt_len encPt_one g (k * 2) c (l.drop k).toArray w (own_holds h k hk) (by rw [hs]; omega)
  rw [hs] at hcon
  refine Calls.mono hcon ?_
  rintro e w' ⟨rfl, m, rfl⟩
  have hp := own_put h k hk (l.drop k).toArray.reverse (by rw [Array.size_reverse, hs]) m
  simp only [List.reverse_toArray] at hp
  exact ⟨rfl, by simpa using hp, by simpa using but_putRowK (w := w) (g := g) (k * 2) m (l.drop k).toArray.reverse⟩
end
end Go.Proofs.Ythfeamlioiaebaa
