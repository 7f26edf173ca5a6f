/- slices.Delete at points; cells of a block written and cleared. -/
import Derived.Test.YthfeamlioiaebaaRev
import Derived.Deep.RegionLaw
import Derived.Lib.SliceRun
set_option linter.unusedVariables false
set_option linter.unusedSimpArgs false
namespace Go.Proofs.Ythfeamlioiaebaa
open Go.RowKit Go.Par Go.Sort

def putL : List Value → Nat → Array Value → Array Value
  | [], _, c => c
  | v :: vs, o, c => putL vs (o + 1) (c.setIfInBounds o v)
theorem putL_size : ∀ (vs : List Value) (o : Nat) (c : Array Value), (putL vs o c).size = c.size
  | [], _, _ => rfl
  | v :: vs, o, c => by rw [putL, putL_size vs]; simp
theorem putL_get : ∀ (vs : List Value) (o : Nat) (c : Array Value) (j : Nat), (putL vs o c)[j]? = if o ≤ j ∧ j < o + vs.length ∧ j < c.size then vs[j - o]? else c[j]?
  | [], o, c, j => by rw [putL, if_neg (by simp; omega)]
  | v :: vs, o, c, j => by
    rw [putL, putL_get vs (o + 1) _ j, Array.size_setIfInBounds, List.length_cons]
    by_cases h1 : o + 1 ≤ j ∧ j < o + 1 + vs.length ∧ j < c.size
    · rw [if_pos h1, if_pos (by omega), show j - o = (j - (o + 1)) + 1 by omega, List.getElem?_cons_succ]
    · rw [if_neg h1]
      by_cases h2 : o = j
      · subst h2
        by_cases h3 : o < c.size
        · rw [if_pos (by omega), Nat.sub_self, List.getElem?_cons_zero, Array.getElem?_setIfInBounds_self_of_lt h3]
        · rw [if_neg (by omega), Array.getElem?_eq_none (by simp; omega), Array.getElem?_eq_none (by omega)]
      · rw [Array.getElem?_setIfInBounds_ne h2, if_neg (by omega)]
theorem box_setCells {g : Nat} {t : TypeId} : ∀ (vs : List Value) (o : Nat) (c : Array Value) (w : World), Box w g t c → Box (w.setCells g o vs) g t (putL vs o c)
  | [], _, _, _, h => h
  | v :: vs, o, c, w, h => box_setCells vs (o + 1) _ _ (h.set o v)
theorem but_setCells {g : Nat} {u : World} : ∀ (vs : List Value) (o : Nat) (w : World), But g u w → But g u (w.setCells g o vs)
  | [], _, _, h => h
  | v :: vs, o, w, h => but_setCells vs (o + 1) _ (h.set o v)
theorem butDrew {g : Nat} {u w : World} (h : But g u w) : But g u w.drew := h.trans (But.of_ext (Ext.drew w))
theorem own_mk {w : World} {B g m cap : Nat} {l : List P2} {cur : Array Value} (hm : m = l.length) (hb : B ≤ g) (hB : Box w g 24 cur) (h1 : m ≤ cap) (h2 : cap ≤ maxLen) (h3 : cur.size = cap * 2)
    (h4 : ∀ (j : Nat) (v : Value), (ptCells l)[j]? = some v → cur[j]? = some v) : Own w B (.slice (some ⟨g, 0, none⟩) m cap) l := by
  subst hm
  refine ⟨ptCells_length _, .inr ⟨g, cap, cur, rfl, hb, hB, h1, h2, h3, ?_⟩⟩
  refine List.ext_getElem? fun j => ?_
  by_cases hj : j < l.length * 2
  · rw [List.getElem?_take, if_pos hj]
    obtain ⟨v, hv⟩ : ∃ v, (ptCells l)[j]? = some v := ⟨_, List.getElem?_eq_getElem (by rw [ptCells_length]; exact hj)⟩
    rw [hv, Array.getElem?_toList]
    exact h4 j v hv
  · rw [List.getElem?_eq_none (by rw [List.length_take]; omega), List.getElem?_eq_none (by rw [ptCells_length]; omega)]
theorem own_cell {w : World} {B g n cap : Nat} {l : List P2} (h : Own w B (.slice (some ⟨g, 0, none⟩) n cap) l) {cur : Array Value} (hB : Box w g 24 cur) {j : Nat} {v : Value} (hv : (ptCells l)[j]? = some v) : cur[j]? = some v := by
  obtain ⟨cur', hl, _, hg, _, _, _, ht⟩ := own_open h
  have : cur' = cur := by
    unfold Box at hB
    rw [hg] at hB
    injection hB with hB
    injection hB
  subst this
  rw [← ht, List.getElem?_take] at hv
  split at hv
  · simpa using hv
  · cases hv
theorem zero_cells (n : Nat) : (Builtin.zeroCells (Value.agg #[.int .i64 0, .int .i64 0]).cells n).toList = List.replicate (n * 2) (.int .i64 0) := by
  apply List.ext_getElem
  · simp [Builtin.zeroCells, Value.cells]
  · intro i h1 h2
    simp [Builtin.zeroCells, Value.cells]
    rcases Nat.mod_two_eq_zero_or_one i with h | h <;> rw [h] <;> rfl
theorem zero_pt (w : World) : (zeroValue 24).run Try.prog w = .ok (.agg #[.int .i64 0, .int .i64 0]) w := by kernel_rfl
/-- clear at points -/
theorem run_clear_pts (w : World) (ty : TypeId) (b o n c : Nat) (hn : 0 < n) (hc : ∀ j, j < n * 2 → (w.cell? ⟨b, o + j, none⟩).isSome = true) (hf : ∀ j, j < n * 2 → w.frozen? ⟨b, o + j, none⟩ = false) :
    (Builtin.clear_ #[38] ty #[.slice (some ⟨b, o, none⟩) n c]).run Try.prog w = .ok (.tuple #[]) (w.setCells b o (List.replicate (n * 2) (.int .i64 0))) := by
  have hst := run_storeCells_cells (P := Try.prog) b o (List.replicate (n * 2) (.int .i64 0)) 0 w (by simpa using hc) (by simpa using hf) (by intro v hv'; rw [List.eq_of_mem_replicate hv']; rfl)
  simp only [Nat.add_zero] at hst
  obtain ⟨m, rfl⟩ : ∃ m, n = m + 1 := ⟨n - 1, by omega⟩
  simp [Builtin.clear_, run_underlying Try.underlying38, zero_pt, zero_cells, hst]
set_option maxRecDepth 100000 in
set_option maxHeartbeats 800000 in
theorem sDelete_any {w : World} {B g n cap : Nat} {l : List P2} (h : Own w B (.slice (some ⟨g, 0, none⟩) n cap) l) (i j : Nat) (hlt : i < j) (hj : j ≤ n) (hn : n ≤ 1000000) :
    Calls Try.prog 72 #[.slice (some ⟨g, 0, none⟩) n cap, .int .i64 i, .int .i64 j] w fun e w' =>
      e = .returned (.slice (some ⟨g, 0, none⟩) (n - (j - i)) cap) ∧ Own w' B (.slice (some ⟨g, 0, none⟩) (n - (j - i)) cap) (l.take i ++ l.drop j) ∧ But g w w' := by
  obtain ⟨cur, hl, hb, hg, hcap, hm, hs, ht⟩ := own_open h
  obtain ⟨i0, hi0, hz0, hz1, hz2⟩ := info_parts info_pt
  have hB : Box w.drew g 24 cur := hg
  have hget : ∀ t v, (ptCells l)[t]? = some v → cur[t]? = some v := fun t v hv => own_cell h hg hv
  obtain ⟨news, hnews⟩ : ∃ news, news = ptCells (l.drop j) := ⟨_, rfl⟩
  have hlen : news.length = (n - j) * 2 := by rw [hnews, ptCells_length, List.length_drop, ← hl]
  have hsplit : ptCells l = ptCells (l.take j) ++ news := by rw [hnews, ← ptCells_append, List.take_append_drop]
  have htj : (ptCells (l.take j)).length = j * 2 := by rw [ptCells_length, List.length_take]; omega
  have hnget : ∀ t u, news[t]? = some u → cur[j * 2 + t]? = some u := fun t u hu => hget _ _ (by rw [hsplit, List.getElem?_append_right (by omega), htj, show j * 2 + t - j * 2 = t by omega]; exact hu)
  obtain ⟨A, hA, hsrc⟩ : ∃ A : Addr, (if cap = j then some (⟨g, 0, none⟩ : Addr) else some ⟨g, j * 2, none⟩) = some A ∧ Hid (∀ t u, news[t]? = some u → w.drew.cell? (A.add t) = some u) := by
    by_cases h : cap = j
    · refine ⟨⟨g, 0, none⟩, by simp [h], fun t u hu => ?_⟩
      have h0 : news.length = 0 := by rw [hlen]; omega
      rw [List.length_eq_zero_iff.1 h0] at hu
      simp at hu
    · refine ⟨⟨g, j * 2, none⟩, by simp [h], fun t u hu => ?_⟩
      rw [Addr.add_lit, hB.cell]
      exact hnget t u hu
  have s1 : Hid (news.length = (n - j) * 2) := hlen
  have s2 : Hid (∀ u ∈ news, u.oneCell' = true) := by
    intro u hu
    rw [hnews] at hu
    exact ptCells_one _ u hu
  have s3 : Hid (∀ t, t < news.length → (w.drew.cell? ⟨g, 0 + i * 2 + t, none⟩).isSome = true ∧ w.drew.frozen? ⟨g, 0 + i * 2 + t, none⟩ = false) := by
    intro t ht
    rw [hlen] at ht
    rw [hB.cell, hB.frozen, Array.getElem?_eq_getElem (by omega)]
    exact ⟨rfl, rfl⟩
  obtain ⟨W1, hW1⟩ : ∃ W1, W1 = w.drew.setCells g (0 + i * 2) news := ⟨_, rfl⟩
  have hB1 : Box W1 g 24 (putL news (i * 2) cur) := by
    rw [hW1, Nat.zero_add]
    exact box_setCells _ _ _ _ hB
  have hs1 : (putL news (i * 2) cur).size = cap * 2 := by rw [putL_size]; exact hs
  have hcl : ∀ ty, (Builtin.clear_ #[38] ty #[.slice (some ⟨g, (i + (n - j)) * 2, none⟩) (n - (i + (n - j))) (cap - (i + (n - j)))]).run Try.prog W1 = .ok (.tuple #[]) (W1.setCells g ((i + (n - j)) * 2) (List.replicate ((n - (i + (n - j))) * 2) (.int .i64 0))) :=
    fun ty => run_clear_pts W1 ty g _ _ _ (by omega) (fun t ht => by rw [hB1.cell, Array.getElem?_eq_getElem (by omega)]; rfl) (fun t ht => hB1.frozen _)
  have hB2 : Box (W1.setCells g ((i + (n - j)) * 2) (List.replicate ((n - (i + (n - j))) * 2) (.int .i64 0))) g 24 (putL (List.replicate ((n - (i + (n - j))) * 2) (.int .i64 0)) ((i + (n - j)) * 2) (putL news (i * 2) cur)) := box_setCells _ _ _ _ hB1
  have hbut : But g w (W1.setCells g ((i + (n - j)) * 2) (List.replicate ((n - (i + (n - j))) * 2) (.int .i64 0))) := by
    refine but_setCells _ _ _ ?_
    rw [hW1]
    exact but_setCells _ _ _ (butDrew (But.refl g w))
  have hown : Own (W1.setCells g ((i + (n - j)) * 2) (List.replicate ((n - (i + (n - j))) * 2) (.int .i64 0))) B (.slice (some ⟨g, 0, none⟩) (i + (n - j)) cap) (l.take i ++ l.drop j) := by
    refine own_mk (by rw [List.length_append, List.length_take, List.length_drop]; omega) hb hB2 (by omega) hm (by rw [putL_size]; exact hs1) fun t v hv => ?_
    have htl : t < (i + (n - j)) * 2 := by
      have := (List.getElem?_eq_some_iff.1 hv).1
      rw [ptCells_length, List.length_append, List.length_take, List.length_drop] at this
      omega
    have hti : (ptCells (l.take i)).length = i * 2 := by rw [ptCells_length, List.length_take]; omega
    rw [putL_get, if_neg (by omega), putL_get, hlen]
    rw [ptCells_append, ← hnews] at hv
    by_cases h1 : t < i * 2
    · rw [if_neg (by omega)]
      rw [List.getElem?_append_left (by omega)] at hv
      refine hget t v ?_
      rw [← List.take_append_drop i l, ptCells_append, List.getElem?_append_left (by omega)]
      exact hv
    · rw [if_pos (by omega)]
      rw [List.getElem?_append_right (by omega), hti] at hv
      exact hv
  have HO := Lib.hid hown
  have HBt := Lib.hid hbut
  have hW : Hid (W1 = w.drew.setCells g (0 + i * 2) news) := hW1
  have hic : i ≤ cap := by omega
  have hjc : j ≤ cap := by omega
  have hcm : cap ≤ 9223372036854775807 := by unfold maxLen at hm; omega
  have hjn : (j : Int) ≤ 1000000 := by omega
  have mixed : Try.prog.follows Departure.mixedOrders = true := by kernel_rfl
  clear hown hbut hB1 hB2 hs1 hB hget hsplit htj hnget hnews hlen hW1 hg hs ht hz0 hm hl h
  go_enter Try.func72, Try.ntmps72
  go_wp2_with fail
  go_region_law_o (refine step_append_room rfl (.tmp 22) (.tmp 25) 38 rfl 24 i0 2 Try.underlying38 hi0 hz1 g 0 i cap (by simp [Act.eval, Act.put]) A (n - j) (cap - j) news (by simp [Act.eval, Act.put]) s1.out hsrc.out s2.out (by omega) s3.out ?_; rw [← hW.out])
  go_wp2
  go_ret
  have e : n - (j - i) = i + (n - j) := by omega
  rw [e]
  exact ⟨rfl, HO.out, HBt.out⟩
end Go.Proofs.Ythfeamlioiaebaa
