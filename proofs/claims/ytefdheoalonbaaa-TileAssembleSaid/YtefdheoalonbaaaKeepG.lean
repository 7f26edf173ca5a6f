/- An append to a row of the call's own in a region that draws its order: a relation between worlds that bears it. No program stands here. -/
import Derived.Test.YtefdheoalonbaaaApp0
import Derived.Test.YtefdheoalonbaaaParG
set_option linter.unusedVariables false
set_option linter.unusedSimpArgs false
namespace Go.Par
open Go.RowKit

/-- all is as it was, but for block g: its first L cells stand, behind them may stand what is to be appended -/
structure KeepG (g L : Nat) (news : List Value) (w w' : World) : Prop where
  os : w'.os = w.os
  tape : w'.tape = w.tape
  output : w'.output = w.output
  size : w.heap.size ≤ w'.heap.size
  block : ∀ k, k < w.heap.size → k ≠ g → w'.heap[k]? = w.heap[k]?
  own : ∀ cs t, w.heap[g]? = some (.cells cs t (0, 0)) → ∃ cs', w'.heap[g]? = some (.cells cs' t (0, 0)) ∧ cs'.size = cs.size ∧ (∀ i, i < L → cs'[i]? = cs[i]?) ∧ (∀ i, L ≤ i → i < L + news.length → cs'[i]? = cs[i]? ∨ cs'[i]? = news[i - L]?)
variable {g L : Nat} {news : List Value}
theorem KeepG.refl (w : World) : KeepG g L news w w := ⟨rfl, rfl, rfl, Nat.le_refl _, fun _ _ _ => rfl, fun cs t h => ⟨cs, h, rfl, fun _ _ => rfl, fun _ _ _ => .inl rfl⟩⟩
theorem KeepG.trans {a b c : World} (h : KeepG g L news a b) (k : KeepG g L news b c) : KeepG g L news a c :=
  ⟨k.os.trans h.os, k.tape.trans h.tape, k.output.trans h.output, Nat.le_trans h.size k.size, fun i hi hne => (k.block i (Nat.lt_of_lt_of_le hi h.size) hne).trans (h.block i hi hne), fun cs t hcs => by
    obtain ⟨cs', h1, h2, h3, h4⟩ := h.own cs t hcs
    obtain ⟨cs'', k1, k2, k3, k4⟩ := k.own cs' t h1
    refine ⟨cs'', k1, k2.trans h2, fun i hi => (k3 i hi).trans (h3 i hi), fun i hi hi' => ?_⟩
    rcases k4 i hi hi' with e | e
    · rcases h4 i hi hi' with e' | e'
      · exact .inl (e.trans e')
      · exact .inr (e.trans e')
    · exact .inr e⟩
theorem KeepG.of_ext {w w' : World} (h : Ext w w') : KeepG g L news w w' :=
  ⟨Below.os h, Below.tape h, Below.output h, Below.size h, fun k hk _ => Below.block h k hk, fun cs t hcs => ⟨cs, (Box.ext (t := t) (cs := cs) hcs h), rfl, fun _ _ => rfl, fun _ _ _ => .inl rfl⟩⟩
def rlG (g L : Nat) (news : List Value) : ParG.Rl := ⟨KeepG g L news, KeepG.refl, KeepG.trans, KeepG.size, fun w => KeepG.of_ext (Ext.drew w)⟩
theorem KeepG.box {w w' : World} (h : KeepG g L news w w') {b : Nat} {t : TypeId} {cs : Array Value} (hb : Box w b t cs) (hne : b ≠ g) : Box w' b t cs := (h.block b hb.lt hne).trans hb
theorem KeepG.cell {w w' : World} (h : KeepG g L news w w') {a : Addr} {v : Value} (hc : w.cell? a = some v) (hne : a.block ≠ g) : w'.cell? a = some v :=
  (World.cell?_of_block (h.block a.block (lt_of_cell hc) hne)).trans hc
/-- what u had is as it was, where g is younger -/
theorem KeepG.ext {u w w' : World} (h : Ext u w) (k : KeepG g L news w w') (hg : u.heap.size ≤ g) : Ext u w' :=
  ⟨k.os.trans (Below.os h), k.tape.trans (Below.tape h), k.output.trans (Below.output h), Nat.le_trans (Below.size h) k.size, fun i hi => (k.block i (Nat.lt_of_lt_of_le hi (Below.size h)) (by omega)).trans (Below.block h i hi)⟩
section
variable {P : Program} {α : Type} {E : EL P α}
/-- a row in block g, no longer than L -/
theorem KeepG.own_le {w w' : World} (h : KeepG g L news w w') {B n cap : Nat} {l : List α} (ho : E.Own w B (.slice (some ⟨g, 0, none⟩) n cap) l) (hL : n * E.size ≤ L) : E.Own w' B (.slice (some ⟨g, 0, none⟩) n cap) l := by
  obtain ⟨cur, h1, h2, h3, h4, h5, h6, h7⟩ := ho.opened
  obtain ⟨cs', k1, k2, k3, k4⟩ := h.own cur E.t h3
  refine EL.Own.mk h1 h2 k1 h4 h5 (k2.trans h6) fun j v hv => ?_
  have hj := (List.getElem?_eq_some_iff.1 hv).1
  rw [E.cells_length, ← h1] at hj
  rw [k3 j (by omega)]
  exact h7 j v hv
/-- the row and what was appended -/
theorem KeepG.own_new {w w' : World} {m : List α} {B n cap : Nat} {l : List α} (h : KeepG g (l.length * E.size) (E.cells m) w w') {v : Value} (ho : E.Own w B v (l ++ m)) : E.Own w' B v (l ++ m) := by
  rcases ho.2 with ⟨rfl, h0⟩ | ⟨b, cap', cur, rfl, _⟩
  · have e : l ++ m = [] := List.eq_nil_of_length_eq_zero h0
    rw [e]
    exact EL.Own.nil _ _
  · obtain ⟨cur, h1, h2, h3, h4, h5, h6, h7⟩ := ho.opened
    by_cases e : b = g
    · subst e
      obtain ⟨cs', k1, k2, k3, k4⟩ := h.own cur E.t h3
      refine EL.Own.mk h1 h2 k1 h4 h5 (k2.trans h6) fun j v hv => ?_
      by_cases hj : j < l.length * E.size
      · rw [k3 j hj]
        exact h7 j v hv
      · have hj' := (List.getElem?_eq_some_iff.1 hv).1
        rw [E.cells_length, List.length_append, Nat.add_mul] at hj'
        rcases k4 j (by omega) (by rw [E.cells_length]; omega) with e | e
        · rw [e]; exact h7 j v hv
        · rw [e, ← hv, E.cells_append, List.getElem?_append_right (by rw [E.cells_length]; omega), E.cells_length]
    · exact EL.Own.mk h1 h2 (h.box h3 e) h4 h5 h6 h7
theorem EL.appK {w : World} {base n cap : Nat} {sv : Value} {l m : List α} (ty : TypeId) (hown : E.Own w base (.slice (some ⟨g, 0, none⟩) n cap) l) (hm : E.Row w sv m) (hm0 : 0 < m.length) (hb : l.length + m.length ≤ 1000000000) (hbase : base ≤ w.heap.size) :
    ∃ v' w', (Builtin.append_ #[E.st, E.st] ty #[.slice (some ⟨g, 0, none⟩) n cap, sv]).run P w = .ok v' w' ∧ E.Own w' base v' (l ++ m) ∧ KeepG g (l.length * E.size) (E.cells m) w w' := by
  obtain ⟨v', w', hr, h2, h3, _⟩ := EL.app (E := E) ty hown hm hb hbase
  refine ⟨v', w', hr, h2, ?_⟩
  obtain ⟨i0, hi, hz0, hz1, hz2⟩ := info_parts E.info
  obtain ⟨cur, o1, o2, o3, o4, o5, o6, o7⟩ := hown.opened
  obtain ⟨s1, s2, ⟨_, s3⟩ | ⟨ad, c, rfl, s3⟩⟩ := hm.src
  · omega
  · by_cases hroom : n + m.length ≤ cap
    · obtain ⟨w'', r1, r2, r3⟩ := run_append_fits (P := P) w base E.st ty E.t i0 E.size E.und hi hz1 g n cap (E.cells l) (by subst o1; exact hown) ad m.length c (E.cells m) s1 s3 s2 hroom
      rw [hr] at r1
      injection r1 with r1 r4
      subst r4
      subst r1
      obtain ⟨cur', p1, p2, p3, p4, p5, p6, p7⟩ := h2.opened
      refine ⟨r3.os, r3.tape, r3.output, r3.size, fun k hk hne => r3.block k hk (fun e => hne (by injection e)), fun cs t hcs => ?_⟩
      have e1 := o3.symm.trans hcs
      injection e1 with e1
      injection e1 with e1 e2
      subst e1
      subst e2
      refine ⟨cur', p3, p6.trans o6.symm, fun i hi => ?_, fun i hi hi' => .inr ?_⟩
      · obtain ⟨v, hv⟩ : ∃ v, (E.cells l)[i]? = some v := ⟨_, List.getElem?_eq_getElem (by rw [E.cells_length]; exact hi)⟩
        rw [o7 i v hv, p7 i v (by rw [E.cells_append, List.getElem?_append_left (by rw [E.cells_length]; exact hi)]; exact hv)]
      · rw [E.cells_length] at hi'
        obtain ⟨v, hv⟩ : ∃ v, (E.cells m)[i - l.length * E.size]? = some v := ⟨_, List.getElem?_eq_getElem (by rw [E.cells_length]; omega)⟩
        rw [hv]
        exact p7 i v (by rw [E.cells_append, List.getElem?_append_right (by rw [E.cells_length]; omega), E.cells_length]; exact hv)
    · have hbytes : (n + m.length) * E.bytes ≤ 140737488355328 := Nat.le_trans (Nat.mul_le_mul (by rw [o1]; exact hb) E.small) (by decide)
      have r1 := run_append_grow (P := P) (w := w) E.st ty E.t i0 _ E.und hi hz0 ⟨g, 0, none⟩ n cap (E.cells l) (by rw [E.cells_length, hz1, o1]) (fun j v hv => by
        rw [Addr.add_lit, Nat.zero_add, o3.cell]; exact o7 j v hv) ad m.length c (E.cells m) (by rw [s1, hz1]) s3 (by unfold maxLen at *; omega) (by omega) (growslice_fits (by unfold maxLen at *; omega) (by rw [hz2]; exact hbytes))
      rw [hr] at r1
      injection r1 with r1 r4
      rw [r4]
      exact KeepG.of_ext ((Ext.drew w).trans (Ext.alloc _ _))
end
end Go.Par
