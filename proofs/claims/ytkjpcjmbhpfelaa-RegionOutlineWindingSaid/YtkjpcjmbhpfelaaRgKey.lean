/- Points as keys of maps. -/
import Derived.Test.YtkjpcjmbhpfelaaRgFam
import Derived.Test.YtkjpcjmbhpfelaaRgCuts
import Derived.DeepKeys4
import Derived.WideKeyEntry
set_option linter.unusedVariables false
set_option linter.unusedSimpArgs false
namespace Go.Par
open Go.RowKit Go.Maps Go.MapKept Go.ChangeMaps Go.WideElems
section
variable {P : Program} {k : TypeId} {κ : Type} {kv : κ → Value} {w w' : World} {b n : Nat} {val : κ → Value}
/-- m[k] = append(m[k], ..): the entry is made, and stored into behind what comes between -/
theorem MapVal.entry [DecidableEq κ] {t e : TypeId} {y : κ} {l : Lit} (hi : ∀ a c, kv a = kv c → a = c) (h : MapVal P k kv w b n val) (K : Go.WideMaps.KeyLaw P k) (ht : P.underlying t = some (.map k e)) (hz : ∀ u : World, (zeroValue e).run P u = .ok nilV u) (hn : n < maxLen) (hk : keyOf P k (kv y) = some l) :
    ∃ (st : Nat) (w1 : World), (Instr.mapEntry t (.map (some b)) (kv y)).run P w = .ok (.tuple #[val y, goInt st]) w1 ∧ w.grownBy w1 (some b) ∧ (∃ es cl, w1.heap[b]? = some (.map es cl)) ∧
      ∀ (w2 : World) (v : Value), w2.heap[b]? = w1.heap[b]? → ∃ w3, (Instr.entryStore t (.map (some b)) (goInt st) v).run P w2 = .ok () w3 ∧ MapVal P k kv w3 b (n + 1) (upd val y v) ∧ w2.grownBy w3 (some b) := by
  have hlook := h.look (Keyed.of_law K) ht (hz w) hk
  have hup := fun v => h.update hi (Keyed.of_law K) ht hn hk v
  obtain ⟨D, ⟨es, clock, hb, F, hs, hD⟩, h2⟩ := h
  have hlt : b < w.heap.size := (Array.getElem?_eq_some_iff.1 hb).1
  obtain ⟨v0, st, es1, clock1, r1, r2, r3⟩ := entry_then_store K ht hz hb F hk
  have hv0 : v0 = val y := by
    rcases Maps.fit_look false (Keyed.of_law K) ht (hz w) hb F hk with ⟨q1, q2, _⟩ | ⟨e0, yy, q1, q2, q3, _⟩
    · rw [hlook] at q1
      simp at q1
      rcases r2 with ⟨e0, m1, m2, _⟩ | ⟨_, m2⟩
      · exact absurd m2 (q2 e0 m1)
      · rw [m2, q1]
    · rw [hlook] at q3
      simp at q3
      rcases r2 with ⟨e1, m1, m2, m3⟩ | ⟨m1, _⟩
      · have := one_of_nodup F.stamped.2.2 e0 q1 e1 m1 (by rw [q2, m2])
        rw [m3, ← this, q3]
      · exact absurd q2 (m1 e0 q1)
  subst hv0
  refine ⟨st, _, r1, ⟨rfl, rfl, rfl, by simp [setBlock], fun i _ hne => heap_setBlock_other hb _ (fun e => hne (by rw [e]))⟩, ⟨es1, clock1, heap_setBlock_same hb _⟩, fun w2 v hw2 => ?_⟩
  rw [heap_setBlock_same hb] at hw2
  obtain ⟨es', clock', s1, s2⟩ := r3 w2 v hw2
  obtain ⟨w', u1, ⟨D', ⟨es'', clock'', hb'', F'', hs'', hD''⟩, u3⟩, u4⟩ := hup v
  rw [s2] at u1
  injection u1 with u1 u1'
  subst u1'
  rw [heap_setBlock_same hb] at hb''
  simp only [Option.some.injEq, Obj.map.injEq] at hb''
  obtain ⟨rfl, rfl⟩ := hb''
  exact ⟨_, s1, ⟨D', ⟨es', clock', heap_setBlock_same hw2 _, F'', hs'', hD''⟩, u3⟩, rfl, rfl, rfl, by simp [setBlock], fun i _ hne => heap_setBlock_other hw2 _ (fun e => hne (by rw [e]))⟩
end
end Go.Par
namespace Go.Proofs.Ytkjpcjmbhpfelaa
open Go.RowKit Go.Par Go.Maps

set_option maxRecDepth 100000
theorem kp_laid : laidOutB Try.prog = true := by kernel_rfl
theorem kp_row : (54 : TypeId) < Try.prog.types.size := of_decide_eq_true (by kernel_rfl)
theorem kp_wide : (match Try.prog.underlying 54 with | some (.array _ _) | some (.struct _) => true | _ => false) = true := by rw [Try.underlying54]
theorem kp_law : Go.WideMaps.KeyLaw Try.prog 54 := deep_law_laid kp_laid (m := 2) (by omega) kp_row (by kernel_rfl) kp_wide
def ptV (p : Int × Int) : Value := .agg #[.int .i64 p.1, .int .i64 p.2]
theorem ptV_inj (a c : Int × Int) (h : ptV a = ptV c) : a = c := by
  unfold ptV at h
  simp only [Value.agg.injEq, Array.mk.injEq, List.cons.injEq, Value.int.injEq, true_and, and_true] at h
  exact Prod.ext h.1 h.2
theorem kp_key {p : Int × Int} (h1 : -4096 ≤ p.1 ∧ p.1 ≤ 4096) (h2 : -4096 ≤ p.2 ∧ p.2 ≤ 4096) : keyOf Try.prog 54 (ptV p) = some (.string (keyBytes [.int .i64 p.1, .int .i64 p.2])) := by
  have w1 := wf_small h1.1 h1.2
  have w2 := wf_small h2.1 h2.2
  have hkt : Try.prog.keyType 54 = true := by kernel_rfl
  have hc : Try.prog.cellsOf 54 = 2 := by kernel_rfl
  have hc3 : Try.prog.cellsOf 3 = 1 := by kernel_rfl
  have hu := Try.underlying54
  have hu3 := Try.underlying3
  obtain ⟨m, hm⟩ : ∃ m, Try.prog.types.size = m + 1 := by
    have : Try.prog.types.size ≠ 0 := fun e => by have := kp_row; rw [e] at this; exact Nat.not_lt_zero _ this
    exact Nat.exists_eq_succ_of_ne_zero this
  unfold keyOf ptV
  simp only [hu]
  rw [if_pos (by simp [hkt, Value.formed, hu, hc]), hm]
  unfold Program.keyLits
  simp only [hu, Value.cells]
  rw [if_pos (by rw [hc]; exact ⟨rfl, by kernel_rfl⟩)]
  obtain ⟨m', hm'⟩ : ∃ m', m = m' + 1 := by
    have h54 : (1 : Nat) < Try.prog.types.size := Nat.lt_trans (show (1 : Nat) < 54 by decide) kp_row
    exact Nat.exists_eq_succ_of_ne_zero (by rw [hm] at h54; omega)
  rw [hm']
  simp [List.mapM_cons, hc3, Program.keyLits, hu3, w1, w2]
theorem zero_ints (w : World) : (zeroValue 40).run Try.prog w = .ok nilV w := by kernel_rfl
abbrev MapP (w : World) (b n : Nat) (val : Int × Int → Value) : Prop := MapVal Try.prog 54 ptV w b n val
end Go.Proofs.Ytkjpcjmbhpfelaa
