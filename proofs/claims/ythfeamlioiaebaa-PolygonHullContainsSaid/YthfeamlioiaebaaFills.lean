/- Fill rules: polygon.Fills looks its rule up in a map that it makes; Contains. -/
import Derived.Test.YthfeamlioiaebaaWind2
import Derived.MapKept
set_option linter.unusedVariables false
set_option linter.unusedSimpArgs false
namespace Go.Par
open Go.MapKept
section
variable {P : Program}
theorem push_set (l : Array Obj) (o o' : Obj) : (l.push o).setIfInBounds l.size o' = l.push o' := by
  refine Array.ext (by simp) fun i h1 h2 => ?_
  simp only [Array.size_setIfInBounds, Array.size_push] at h1
  rw [Array.getElem_setIfInBounds (by simpa using h1), Array.getElem_push, Array.getElem_push]
  by_cases h : i < l.size
  · rw [dif_pos h, if_neg (by omega), dif_pos h]
  · rw [dif_neg h, if_pos (by omega), dif_neg h]
theorem setObj_alloc (w : World) (es es' : Array MapEntry) (c c' : Nat) : (setObj w.heap.size (.map es' c')).run P (w.alloc (.map es c)) = .ok () (w.alloc (.map es' c')) := by
  rw [run_setObj_map (es := es) (clock := c) _ (by rw [heap_alloc_push]; simp)]
  have e : (w.alloc (.map es c)).heap.setIfInBounds w.heap.size (.map es' c') = (w.alloc (.map es' c')).heap := by
    rw [heap_alloc_push, heap_alloc_push, push_set]
  rw [e]
  rfl
theorem map_insert_alloc {t k e : TypeId} (ht : P.underlying t = some (.map k e)) (hk : P.underlying k = some (.int .i64)) (w : World) (es : Array MapEntry) (c : Nat) (n : Int) (v : Value)
    (hf : Instr.findNow (.int .i64) (.int .i64 n) es.toList 0 = some none) :
    (Instr.mapUpdate t (.map (some w.heap.size)) (.int .i64 n) v).run P (w.alloc (.map es c)) = .ok () (w.alloc (.map (es.push ⟨.int .i64 n, v, c⟩) (c + 1))) := by
  have hg : (getObj w.heap.size).run P (w.alloc (.map es c)) = .ok (.map es c) (w.alloc (.map es c)) := Go.MapKept.run_getObj_map (by rw [heap_alloc_push]; simp)
  have hc := run_checkKey (w := w.alloc (.map es c)) (k := .int .i64 n) hk (by simp [IsKey]) false 9999
  have hfk := run_findKey (w := w.alloc (.map es c)) hk hf
  simp only [Instr.mapUpdate, Sem.run_bind, run_underlying ht, Result.andThen, hg, hc, hfk, setObj_alloc]
theorem map_lookup_alloc {t k e : TypeId} (ht : P.underlying t = some (.map k e)) (hk : P.underlying k = some (.int .i64)) (w : World) (es : Array MapEntry) (c : Nat) (n : Int) (v : Value)
    (hf : Instr.findNow (.int .i64) (.int .i64 n) es.toList 0 = some none ∧ (∀ w, (zeroValue e).run P w = .ok v w) ∨ ∃ i, Instr.findNow (.int .i64) (.int .i64 n) es.toList 0 = some (some (i, v))) :
    (Instr.lookup t (.map (some w.heap.size)) (.int .i64 n) false).run P (w.alloc (.map es c)) = .ok v (w.alloc (.map es c)) := by
  have hg : (getObj w.heap.size).run P (w.alloc (.map es c)) = .ok (.map es c) (w.alloc (.map es c)) := Go.MapKept.run_getObj_map (by rw [heap_alloc_push]; simp)
  have hc := run_checkKey (w := w.alloc (.map es c)) (k := .int .i64 n) hk (by simp [IsKey]) es.isEmpty 9999
  rcases hf with ⟨hf, hz⟩ | ⟨i, hf⟩
  · have hfk := run_findKey (w := w.alloc (.map es c)) hk hf
    simp only [Instr.lookup, Sem.run_bind, run_underlying ht, Result.andThen, hg, Sem.run_pure, hc, hfk, hz]
    rfl
  · have hfk := run_findKey (w := w.alloc (.map es c)) hk hf
    simp only [Instr.lookup, Sem.run_bind, run_underlying ht, Result.andThen, hg, Sem.run_pure, hc, hfk]
    rfl
end
end Go.Par
namespace Go.Proofs.Ythfeamlioiaebaa
open Go.RowKit Go.Par Go.MapKept

/-- n & mask of the rule is not 0 -/
def fillsS (n rule : Int) : Bool := if rule = 1 then n != 0 else if rule = 2 then n % 2 != 0 else false
theorem zero_int (w : World) : (zeroValue 3).run Try.prog w = .ok (.int .i64 0) w := by kernel_rfl
theorem and_all (n : Int) (h1 : -9223372036854775808 ≤ n) (h2 : n ≤ 9223372036854775807) : bits .and .i64 n (-1) = n := by
  have e : BitVec.ofInt 64 (-1) = BitVec.allOnes 64 := by decide
  show IntKind.i64.wrap ((BitVec.ofInt 64 n &&& BitVec.ofInt 64 (-1)).toNat : Int) = n
  rw [e, BitVec.and_allOnes, BitVec.toNat_ofInt, IntKind.wrap_i64]
  omega
theorem and_bit (n : Int) (h1 : -9223372036854775808 ≤ n) (h2 : n ≤ 9223372036854775807) : bits .and .i64 n 1 = n % 2 := by
  show IntKind.i64.wrap ((BitVec.ofInt 64 n &&& BitVec.ofInt 64 1).toNat : Int) = n % 2
  rw [BitVec.toNat_and, BitVec.toNat_ofInt, show (BitVec.ofInt 64 1).toNat = 1 from by decide, Nat.and_one_is_mod, IntKind.wrap_i64]
  omega
theorem and_none (n : Int) : bits .and .i64 n 0 = 0 := by
  show IntKind.i64.wrap ((BitVec.ofInt 64 n &&& BitVec.ofInt 64 0).toNat : Int) = 0
  rw [show BitVec.ofInt 64 0 = 0#64 from by decide, BitVec.and_zero]
  rfl
set_option maxRecDepth 100000 in
set_option maxHeartbeats 800000 in
theorem Fills_any (n rule : Int) (w : World) (h1 : -9223372036854775808 ≤ n) (h2 : n ≤ 9223372036854775807) :
    Calls Try.prog 23 #[.int .i64 n, .int .i64 rule] w fun e w' => e = .returned (.bool (fillsS n rule)) ∧ Ext w w' := by
  have hmm := @run_makeMap Try.prog
  have m1 := map_insert_alloc Try.underlying65 Try.underlying3 w #[] 0 1 (.int .i64 (-1)) rfl
  have m2 := map_insert_alloc Try.underlying65 Try.underlying3 w #[⟨.int .i64 1, .int .i64 (-1), 0⟩] 1 2 (.int .i64 1) rfl
  simp only [List.push_toArray, List.nil_append, List.cons_append, Nat.zero_add, Nat.reduceAdd] at m1 m2
  have hand : ∀ v, fillsS n rule = (bits .and .i64 n v != 0) → (Instr.lookup 65 (.map (some w.heap.size)) (.int .i64 rule) false).run Try.prog (w.alloc (.map #[⟨.int .i64 1, .int .i64 (-1), 0⟩, ⟨.int .i64 2, .int .i64 1, 1⟩] 2)) = .ok (.int .i64 v) (w.alloc (.map #[⟨.int .i64 1, .int .i64 (-1), 0⟩, ⟨.int .i64 2, .int .i64 1, 1⟩] 2)) →
      Calls Try.prog 23 #[.int .i64 n, .int .i64 rule] w fun e w' => e = .returned (.bool (fillsS n rule)) ∧ Ext w w' := by
    intro v hv m3
    have HV := Lib.hid hv
    clear hv h1 h2
    go_enter Try.func23, Try.ntmps23
    go_wp2
    go_ret
    exact ⟨ret_eq (by rw [HV.out]; rfl), Ext.alloc _ _⟩
  by_cases hr1 : rule = 1
  · subst hr1
    exact hand (-1) (by rw [and_all n h1 h2]; rfl) (map_lookup_alloc Try.underlying65 Try.underlying3 w _ 2 1 _ (.inr ⟨0, rfl⟩))
  · by_cases hr2 : rule = 2
    · subst hr2
      exact hand 1 (by rw [and_bit n h1 h2]; rfl) (map_lookup_alloc Try.underlying65 Try.underlying3 w _ 2 2 _ (.inr ⟨1, rfl⟩))
    · refine hand 0 (by rw [and_none]; simp [fillsS, hr1, hr2]) (map_lookup_alloc Try.underlying65 Try.underlying3 w _ 2 rule _ (.inl ⟨?_, zero_int⟩))
      have b1 : (rule == 1) = false := by simpa using hr1
      have b2 : (rule == 2) = false := by simpa using hr2
      simp [Instr.findNow, Instr.sameNow, b1, b2]

set_option maxRecDepth 100000 in
set_option maxHeartbeats 800000 in
theorem rFills_any (n rule : Int) (w : World) (h1 : -9223372036854775808 ≤ n) (h2 : n ≤ 9223372036854775807) :
    Calls Try.prog 24 #[.int .i64 n, .int .i64 rule] w fun e w' => e = .returned (.bool (fillsS n rule)) ∧ w = w' := by
  have hm : (n.tmod 2 != 0) = (n % 2 != 0) := by
    rw [Bool.eq_iff_iff, bne_iff_ne, bne_iff_ne]
    have e1 := Int.mul_tdiv_add_tmod n 2
    have e2 := Int.tmod_lt_of_pos n (show (0 : Int) < 2 by decide)
    have e3 := Int.lt_tmod_of_pos n (show (0 : Int) < 2 by decide)
    omega
  have HM := Lib.hid hm
  clear hm h1 h2
  by_cases hr1 : rule = 1
  · subst hr1
    go_enter Try.func24, Try.ntmps24
    go_wp2
    all_goals
      go_ret
      exact ⟨ret_eq (by simp_all [fillsS]), rfl⟩
  · have d1 : (rule == 1) = false := by simpa using hr1
    by_cases hr2 : rule = 2
    · subst hr2
      have e : fillsS n 2 = (n.tmod 2 != 0) := by rw [HM.out]; rfl
      rw [e]
      clear e
      go_enter Try.func24, Try.ntmps24
      go_wp2
      all_goals
        go_ret
        exact ⟨ret_eq (by simp_all), rfl⟩
    · have d2 : (rule == 2) = false := by simpa using hr2
      have e : fillsS n rule = false := by simp [fillsS, hr1, hr2]
      rw [e]
      clear e
      go_enter Try.func24, Try.ntmps24
      go_wp2
      all_goals
        go_ret
        exact ⟨ret_eq (by simp_all), rfl⟩
end Go.Proofs.Ythfeamlioiaebaa
