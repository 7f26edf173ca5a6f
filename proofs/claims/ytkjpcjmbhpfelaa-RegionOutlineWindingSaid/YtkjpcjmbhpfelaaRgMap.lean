/- Maps from numbers to true, made by the call: stored into, gone through, emptied. -/
import Derived.Test.YtkjpcjmbhpfelaaRgFn
import Derived.Maps.Own
import Derived.Maps.OwnSet
import Derived.Maps.RangeWalk
import Derived.Maps.Ext
import Derived.Sort.KeysCollected
set_option linter.unusedVariables false
set_option linter.unusedSimpArgs false
namespace Go.Par
open Go.RowKit Go.Maps Go.MapKept Go.ChangeMaps

theorem Ext.grown0 {w w' : World} (he : Ext w w') : w.grownBy w' none := ⟨Below.os he, Below.tape he, Below.output he, Below.size he, fun k hk _ => Below.block he k hk⟩
/-- what turns in blocks made since w0 does not show in what w0 had -/
theorem Ext.grownAt {w0 w w' : World} {r : Option Nat} (h : Ext w0 w) (hg : w.grownBy w' r) (hr : ∀ j, r = some j → w0.heap.size ≤ j) : Ext w0 w' :=
  ⟨hg.os.trans (Below.os h), hg.tape.trans (Below.tape h), hg.output.trans (Below.output h), Nat.le_trans (Below.size h) hg.size, fun i hi =>
    (hg.block i (Nat.lt_of_lt_of_le hi (Below.size h)) (fun e => by have := hr i e.symm; omega)).trans (Below.block h i hi)⟩
section
variable {H : Type} {P : Program} {k : TypeId} {R : Value → Option (DataW H × List MemPlace)} {w w' : World} {b n r cnt : Nat} {D : DataW H} {left : Lit → Bool}
theorem mapExt (h : w.ownsMap P k R b n D) (he : Ext w w') : w'.ownsMap P k R b n D := h.kept he.grown0 (by simp)
theorem rangesExt (h : w.ranges P k R b r n D left cnt) (he : Ext w w') : w'.ranges P k R b r n D left cnt := h.kept he.grown0 (by simp) (by simp)
/-- clear(m) -/
theorem run_clear_own {t e : TypeId} (h : w.ownsMap P k R b n D) (ht : P.underlying t = some (.map k e)) : ∃ w', (∀ ty, (Builtin.clear_ #[t] ty #[.map (some b)]).run P w = .ok (.tuple #[]) w') ∧ w.grownBy w' (some b) := by
  obtain ⟨es, clock, hb, F, hs, rfl⟩ := h
  refine ⟨_, fun ty => by simp [Builtin.clear_, run_underlying ht, MapKept.run_getObj_map hb, MapKept.run_setObj_map _ hb, Result.andThen]; rfl, ?_⟩
  exact ⟨rfl, rfl, rfl, by simp, fun i hi hne => (heap_set hb).2 i (fun e => hne (by rw [e]))⟩
theorem own_ne_map {α : Type} {E : EL P α} {base : Nat} {v : Value} {l : List α} (h : E.Own w base v l) (hr : w.ranges P k R b r n D left cnt) : v.ownBlock ≠ some b ∧ v.ownBlock ≠ some r := by
  obtain ⟨es, clock, since, seen, c0, hb, _, _, _, hit, _⟩ := hr
  refine ⟨fun e => ?_, fun e => ?_⟩
  · obtain ⟨_, cur, hc⟩ := ownBlock_cells h e.symm
    rw [hb] at hc; cases hc
  · obtain ⟨_, cur, hc⟩ := ownBlock_cells h e.symm
    rw [hit] at hc; cases hc
/-- the keys met so far -/
def CollI (D0 : DataW H) (left : Lit → Bool) (ss : List Int) : Prop := ss.Nodup ∧ ∀ x, x ∈ ss ↔ (has D0 (.int .i64 x) = true ∧ left (.int .i64 x) = false)
theorem CollI.start (D0 : DataW H) : CollI D0 (has D0) [] := ⟨List.nodup_nil, fun x => by cases has D0 (.int .i64 x) <;> simp⟩
theorem CollI.step {D0 : DataW H} {ss : List Int} (h : CollI D0 left ss) {x : Int} {y : DataW H} (hlk : left (.int .i64 x) = true) (hat : ∀ zd, D0.atKey (.int .i64 x) zd = y) : CollI D0 (fun z => left z && !z.sameKey (.int .i64 x)) (ss ++ [x]) := by
  have hhas : has D0 (.int .i64 x) = true := has_true_of_atKey hat
  have hnew : x ∉ ss := fun hx => by have := ((h.2 x).1 hx).2; rw [hlk] at this; cases this
  refine ⟨List.nodup_append.2 ⟨h.1, by simp, fun a ha b hb => by simp at hb; subst hb; exact fun e => hnew (e ▸ ha)⟩, fun y => ?_⟩
  by_cases hy : y = x
  · subst hy; simp [hhas, Lit.sameKey]
  · simp [h.2 y, hy, Lit.sameKey]
theorem CollI.end {D0 : DataW H} {ss : List Int} (h : CollI D0 left ss) (hl : ∀ kl, left kl = false) : ss.Nodup ∧ ∀ x, x ∈ ss ↔ has D0 (.int .i64 x) = true :=
  ⟨h.1, fun x => by rw [h.2]; simp [hl]⟩
/-- the map that holds true at the numbers of l -/
def setI (l : List Int) : DataW H := setOf (.lit (.bool true)) (l.map (Lit.int .i64))
theorem setI_nil : (setI [] : DataW H) = .map [] := rfl
theorem setI_snoc (l : List Int) (x : Int) : (setI (l ++ [x]) : DataW H) = (setI l).put (.int .i64 x) (.lit (.bool true)) := by
  unfold setI
  rw [List.map_append]
  exact setOf_snoc _ _ _
theorem setI_has (l : List Int) (x : Int) : has (setI l : DataW H) (.int .i64 x) = true ↔ x ∈ l := by
  unfold setI
  rw [has_setOf _ _ _ (fun y hy => by obtain ⟨z, _, rfl⟩ := List.mem_map.1 hy; trivial), List.any_eq_true]
  constructor
  · rintro ⟨y, hy, hs⟩
    obtain ⟨z, hz, rfl⟩ := List.mem_map.1 hy
    have : z = x := by simpa [Lit.sameKey] using hs
    rw [← this]; exact hz
  · intro hx
    exact ⟨_, List.mem_map.2 ⟨x, hx, rfl⟩, by simp [Lit.sameKey]⟩
theorem setI_size (l : List Int) : size (setI l : DataW H) ≤ l.length := by
  unfold setI
  have key : ∀ (l : List Lit) (m : DataW H), Tidy m → (∀ x ∈ l, WideAt.IsKeyLit x) → size (l.foldl (fun m x => m.put x (.lit (.bool true))) m) ≤ size m + l.length := fun l => by
    induction l with
    | nil => intro m _ _; exact Nat.le_refl _
    | cons x l ih =>
      intro m hm hk
      have h1 := ih (m.put x (.lit (.bool true))) (hm.put (hk x List.mem_cons_self) _) fun y hy => hk y (List.mem_cons_of_mem _ hy)
      have h2 : size (m.put x (.lit (.bool true))) ≤ size m + 1 := by
        rw [Go.Maps.size_put hm]
        split <;> omega
      rw [List.foldl_cons, List.length_cons]
      omega
  have := key (l.map (Lit.int .i64)) (.map []) tidy_empty (fun y hy => by obtain ⟨z, _, rfl⟩ := List.mem_map.1 hy; trivial)
  rw [List.length_map] at this
  have e : size (.map [] : DataW H) = 0 := rfl
  rw [e, Nat.zero_add] at this
  exact this
end
end Go.Par
