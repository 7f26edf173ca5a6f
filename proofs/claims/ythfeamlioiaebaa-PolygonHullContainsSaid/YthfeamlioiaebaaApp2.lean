/- Rows of the call's own: where an append puts them; cut back; one point written. -/
import Derived.Test.YthfeamlioiaebaaDel
import Derived.Deep.AppendLies
set_option linter.unusedVariables false
set_option linter.unusedSimpArgs false
namespace Go.Proofs.Ythfeamlioiaebaa
open Go.RowKit Go.Par

theorem box_grown {w w' : World} {b : Nat} {t : TypeId} {cs : Array Value} {ob : Option Nat} (h : Box w b t cs) (hg : w.grownBy w' ob) (hne : ob ≠ some b) : Box w' b t cs :=
  (hg.block b h.lt (fun e => hne e.symm)).trans h
theorem wpList_app2 {w : World} {ops : Array Oper} {rest : List Oper} {o : Oper} {a : Act} {Q : Exit → Act → World → Prop} (hgd : o.guard = none) (s x : Operand)
    (ho : o.op = .call { callee := .builtin .append, args := #[s, x], argTypes := #[38, 38] }) (base : Nat) (v sv : Value) (l m : List P2)
    (hs : a.eval s = v) (hx : a.eval x = sv) (hown : Own w base v l) (hm : Pts w sv m) (h0 : 0 < m.length) (hb : l.length + m.length ≤ 1000000000) (hbase : base ≤ w.heap.size)
    (h : ∀ g cap w', Own w' base (.slice (some ⟨g, 0, none⟩) (l.length + m.length) cap) (l ++ m) → w.grownBy w' v.ownBlock → (v.ownBlock = some g ∨ g = w.heap.size) →
      wpList Try.prog ops Q rest (a.put o.dst (.slice (some ⟨g, 0, none⟩) (l.length + m.length) cap)) w') : wpList Try.prog ops Q (o :: rest) a w := by
  obtain ⟨i0, hi, hz0, hz1, hz2⟩ := info_parts info_pt
  obtain ⟨h1, h2, ⟨⟨c, rfl⟩, hm0⟩ | ⟨ad, c, rfl, h3⟩⟩ := hm.src
  · omega
  · obtain ⟨g, cap, w', hr, k1, k2, k3, _⟩ := run_append_lies (P := Try.prog) (w := w) 38 o.type base 24 i0 (.agg #[.int .i64 0, .int .i64 0]) 2 16 Try.underlying38 hi hz0 hz1 hz2 rfl (by decide) v _ _ hown ad m.length c (ptCells m) h1 h3 h2 h0 (by unfold maxLen; omega) (by omega) hbase w.heap.size rfl
    refine Lib.wpList_append_run _ hgd _ _ _ _ ho _ _ hs hx _ _ hr (h g cap w' ?_ k2 k3)
    unfold Own
    rw [List.length_append, ptCells_append]
    exact k1
theorem own_cut {w : World} {B g n cap k : Nat} {l : List P2} (h : Own w B (.slice (some ⟨g, 0, none⟩) n cap) l) (hk : k ≤ n) : Own w B (.slice (some ⟨g, 0, none⟩) k cap) (l.take k) := by
  obtain ⟨cur, hl, hb, hg, hcap, hm, hs, ht⟩ := own_open h
  refine own_mk (by rw [List.length_take]; omega) hb hg (by omega) hm hs fun j v hv => own_cell h hg ?_
  rw [← List.take_append_drop k l, ptCells_append, List.getElem?_append_left (List.getElem?_eq_some_iff.1 hv).1]
  exact hv
/-- one point of a row written -/
theorem own_set {w : World} {B g n cap : Nat} {l : List P2} (h : Own w B (.slice (some ⟨g, 0, none⟩) n cap) l) (k : Nat) (hk : k < n) (x y : Int) :
    Own ((w.setCell ⟨g, k * 2, none⟩ (.int .i64 x)).setCell ⟨g, k * 2 + 1, none⟩ (.int .i64 y)) B (.slice (some ⟨g, 0, none⟩) n cap) (l.set k (x, y)) := by
  obtain ⟨cur, hl, hb, hg, hcap, hm, hs, ht⟩ := own_open h
  have hB : Box w g 24 cur := hg
  refine own_mk (by rw [List.length_set]; exact hl) hb ((hB.set _ _).set _ _) hcap hm (by simpa using hs) fun j v hv => ?_
  obtain ⟨i, p, hp, hj⟩ := ptCells_at' hv
  rw [List.getElem?_set] at hp
  by_cases hki : k = i
  · subst hki
    rw [if_pos rfl, if_pos (by omega)] at hp
    injection hp with hp
    subst hp
    rcases hj with ⟨rfl, rfl⟩ | ⟨rfl, rfl⟩
    · rw [Array.getElem?_setIfInBounds_ne (by omega), Array.getElem?_setIfInBounds_self_of_lt (by omega)]
    · rw [Array.getElem?_setIfInBounds_self_of_lt (by simp; omega)]
  · rw [if_neg hki] at hp
    have hc := ptCells_at hp
    rcases hj with ⟨rfl, rfl⟩ | ⟨rfl, rfl⟩
    · rw [Array.getElem?_setIfInBounds_ne (by omega), Array.getElem?_setIfInBounds_ne (by omega)]
      exact own_cell h hg hc.1
    · rw [Array.getElem?_setIfInBounds_ne (by omega), Array.getElem?_setIfInBounds_ne (by omega)]
      exact own_cell h hg hc.2
end Go.Proofs.Ythfeamlioiaebaa
