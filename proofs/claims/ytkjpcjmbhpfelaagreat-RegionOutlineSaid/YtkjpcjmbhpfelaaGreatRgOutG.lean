/- Outlines of the program: the maps of rectangles by row, filled. -/
import Derived.Test.YtkjpcjmbhpfelaaGreatRgOutW
import Derived.Test.YtkjpcjmbhpfelaaGreatZB
import Derived.Deep.RegionHeld3
set_option linter.unusedVariables false
set_option linter.unusedSimpArgs false
namespace Go.Reg
open Go.Proofs.YtkjpcjmbhpfelaaGreat Go.Par
/-- what the maps hold behind k rectangles: by their lower rows (true), by their upper ones (false) -/
def famL (L : List R4) (k : Nat) : Bool × Int → List R4 := fun i => if i.1 then aboveL (L.take k) i.2 else belowL (L.take k) i.2
theorem aboveL_snoc (l : List R4) (r : R4) (y : Int) : aboveL (l ++ [r]) y = if r.2.2.2 = y then aboveL l y ++ [r] else aboveL l y := by
  unfold aboveL
  rw [List.filter_append]
  by_cases h : r.2.2.2 = y <;> simp [h]
theorem belowL_snoc (l : List R4) (r : R4) (y : Int) : belowL (l ++ [r]) y = if r.2.1 = y then belowL l y ++ [r] else belowL l y := by
  unfold belowL
  rw [List.filter_append]
  by_cases h : r.2.1 = y <;> simp [h]
theorem famL_step {L : List R4} {k : Nat} {r : R4} (h : L[k]? = some r) :
    famL L (k + 1) = upd (upd (famL L k) (true, r.2.2.2) (famL L k (true, r.2.2.2) ++ [r])) (false, r.2.1) (upd (famL L k) (true, r.2.2.2) (famL L k (true, r.2.2.2) ++ [r]) (false, r.2.1) ++ [r]) := by
  funext ⟨s, y⟩
  unfold famL
  rw [take_snocG h]
  cases s
  · by_cases e : r.2.1 = y
    · subst e
      simp [upd, belowL_snoc]
    · have : ¬ ((false, y) : Bool × Int) = (false, r.2.1) := fun q => e (by simpa using q.symm)
      simp [upd, belowL_snoc, e, this]
      try (intro q; exact absurd q.symm e)
  · by_cases e : r.2.2.2 = y
    · subst e
      simp [upd, aboveL_snoc]
    · simp [upd, aboveL_snoc, e]
      try (intro q; exact absurd q.symm e)
theorem famL_len (L : List R4) (k : Nat) (i : Bool × Int) : (famL L k i).length ≤ k := by
  unfold famL aboveL belowL
  split
  · exact Nat.le_trans (List.length_filter_le _ _) (by rw [List.length_take]; omega)
  · exact Nat.le_trans (List.length_filter_le _ _) (by rw [List.length_take]; omega)
theorem famL_full {L : List R4} {k : Nat} (h : L.length ≤ k) (y : Int) : famL L k (true, y) = aboveL L y ∧ famL L k (false, y) = belowL L y := by
  unfold famL
  rw [List.take_of_length_le h]
  exact ⟨rfl, rfl⟩
end Go.Reg
namespace Go.Par
/-- an append of which the run is known, at a step of a region that draws its order -/
theorem step_run {P : Program} {ops : Array Oper} {o : Oper} {a : Act} {K : Act → World → Prop} {Q : Exit → Act → World → Prop} {E : Prop} {w w2 : World} {s x : Operand} {t : TypeId} {v u v1 : Value} (hgd : o.guard = none)
    (ho : o.op = .call { callee := .builtin .append, args := #[s, x], argTypes := #[t, t] }) (hs : a.eval s = v) (hx : a.eval x = u) (hr : (Builtin.append_ #[t, t] o.type #[v, u]).run P w = .ok v1 w2) (h : K (a.put o.dst v1) w2) :
    if Region.wanted o (yielded ops a.tmps) = true then Oper.wp P o a w K Q else E := by
  have hw : Region.wanted o (yielded ops a.tmps) = true := by simp [Region.wanted, hgd]
  rw [if_pos hw]
  unfold Oper.wp execOp
  simp only [ho, resolve, invoke, builtin, Sem.run_bind, Sem.run_pure, Result.andThen_ok, List.map_toArray, List.map_cons, List.map_nil, hs, hx, hr]
  exact h
end Go.Par
namespace Go.Proofs.YtkjpcjmbhpfelaaGreat
open Go.RowKit Go.Par Go.Reg Go.Maps

abbrev MapR (w : World) (b n : Nat) (val : Int → Value) : Prop := MapVal Tryz.prog 3 (Value.int .i64) w b n val
theorem kv_inj (a c : Int) (h : Value.int .i64 a = Value.int .i64 c) : a = c := by injection h
theorem zero_rects (w : World) : (zeroValue 22).run Tryz.prog w = .ok nilV w := by kernel_rfl
theorem kv_key {y : Int} (h1 : -4096 ≤ y) (h2 : y ≤ 4096) : keyOf Tryz.prog 3 (.int .i64 y) = some (.int .i64 y) := keyOf_int_mk Tryz.underlying3 (wf_small h1 h2)
set_option maxRecDepth 100000 in
/-- m[y] = append(m[y], r), laid out for the walk -/
theorem grp_step {w0 W : World} {base b b' n n' B : Nat} {val : Bool × Int → Value} {F : Bool × Int → List R4} (s : Bool) (y : Int) (x0 x1 x2 x3 : Int) (hE : Ext w0 W) (hfam : Fam rectE W base val F)
    (hm : MapR W b n fun y => val (s, y)) (hm' : MapR W b' n' fun y => val (!s, y)) (hne : b ≠ b') (hB : Box W B 34 #[.int .i64 x0, .int .i64 x1, .int .i64 x2, .int .i64 x3]) (hnB : ∀ i, (val i).ownBlock ≠ some B)
    (h1 : -4096 ≤ y) (h2 : y ≤ 4096) (hlen : (F (s, y)).length + 1 ≤ 1000000000) (hbase : base ≤ W.heap.size) (hb0 : w0.heap.size ≤ base) (hbm : w0.heap.size ≤ b) (hn : n < maxLen) (Hp : Nat) (hHp : W.heap.size = Hp) :
    ∃ v1 w2 w3, (Instr.lookup 74 (.map (some b)) (.int .i64 y) false).run Tryz.prog W.drew = .ok (val (s, y)) W.drew ∧
      (Instr.lookup 74 (.map (some b)) (.int .i64 y) false).run Tryz.prog (W.alloc (.cells #[.int .i64 x0, .int .i64 x1, .int .i64 x2, .int .i64 x3] 34)).drew = .ok (val (s, y)) (W.alloc (.cells #[.int .i64 x0, .int .i64 x1, .int .i64 x2, .int .i64 x3] 34)).drew ∧
      (Builtin.append_ #[22, 22] 22 #[val (s, y), .slice (some ⟨Hp, 0, none⟩) 1 1]).run Tryz.prog (W.alloc (.cells #[.int .i64 x0, .int .i64 x1, .int .i64 x2, .int .i64 x3] 34)).drew = .ok v1 w2 ∧
      (Instr.mapUpdate 74 (.map (some b)) (.int .i64 y) v1).run Tryz.prog w2 = .ok () w3 ∧ Ext w0 w3 ∧ Fam rectE w3 base (upd val (s, y) v1) (upd F (s, y) (F (s, y) ++ [(x0, x1, x2, x3)])) ∧
      MapR w3 b (n + 1) (fun y' => upd val (s, y) v1 (s, y')) ∧ MapR w3 b' n' (fun y' => upd val (s, y) v1 (!s, y')) ∧ Box w2 B 34 #[.int .i64 x0, .int .i64 x1, .int .i64 x2, .int .i64 x3] ∧ Box w3 B 34 #[.int .i64 x0, .int .i64 x1, .int .i64 x2, .int .i64 x3] ∧
      (∀ i, (upd val (s, y) v1 i).ownBlock ≠ some B) ∧ base ≤ w3.heap.size := by
  subst hHp
  have hA : Ext W (W.drew.alloc (.cells #[.int .i64 x0, .int .i64 x1, .int .i64 x2, .int .i64 x3] 34)) := (Ext.drew W).trans (Ext.alloc _ _)
  have hk := kv_key h1 h2
  have l1 := (hm.ext (Ext.drew W)).look keyed_int Tryz.underlying74 (zero_rects _) (y := y) hk
  have l2 := (hm.ext hA).look keyed_int Tryz.underlying74 (zero_rects _) (y := y) hk
  have hrow : rectE.Row (W.drew.alloc (.cells #[.int .i64 x0, .int .i64 x1, .int .i64 x2, .int .i64 x3] 34)) (.slice (some ⟨W.heap.size, 0, none⟩) 1 1) [(x0, x1, x2, x3)] := EL.rowOne (Box.new W.drew 34 #[.int .i64 x0, .int .i64 x1, .int .i64 x2, .int .i64 x3]) rfl
  obtain ⟨v1, w2, r1, o1, g1, loc1⟩ := EL.app (E := rectE) 22 ((hfam.own (s, y)).ext hA) hrow (by simpa using hlen) (Nat.le_trans hbase hA.size)
  have f1 := (hfam.ext hA).set g1 o1 loc1
  have nm := own_not_map ((hfam.own (s, y)).ext hA) (hm.ext hA)
  have nm' := own_not_map ((hfam.own (s, y)).ext hA) (hm'.ext hA)
  have ne : ∀ {c : Nat}, (val (s, y)).ownBlock = none ∨ (val (s, y)).ownBlock ≠ some c → some c ≠ (val (s, y)).ownBlock := fun h e => by
    rcases h with h | h
    · rw [h] at e; cases e
    · exact h e.symm
  have m1 := (hm.ext hA).kept g1 (ne nm)
  have m1' := (hm'.ext hA).kept g1 (ne nm')
  obtain ⟨w3, r3, m3, g3⟩ := m1.update kv_inj keyed_int Tryz.underlying74 hn (y := y) hk v1
  have f3 := f1.map m1 g3
  have m3' := m1'.kept g3 (fun e => hne (by injection e with e; exact e.symm))
  have hB2 := boxGrown (hB.ext hA) g1 (hnB (s, y))
  have hBne : b ≠ B := fun e => by subst e; exact hm.notCells hB
  have hB3 := boxGrown hB2 g3 (fun e => hBne (by injection e))
  have E2 := growExt (hE.trans hA) ((hfam.own (s, y)).ext hA) hb0 g1
  have E3 := E2.grownAt g3 (fun i hi => by injection hi with hi; omega)
  refine ⟨v1, w2, w3, l1, l2, r1, r3, E3, f3, ?_, ?_, hB2, hB3, fun i => ?_, Nat.le_trans hbase (Nat.le_trans hA.size (Nat.le_trans g1.size g3.size))⟩
  · have e : (fun y' => upd val (s, y) v1 (s, y')) = upd (fun y => val (s, y)) y v1 := by
      funext y'
      by_cases h : y' = y
      · subst h; simp [upd]
      · simp [upd, h]
    rw [e]; exact m3
  · have e : (fun y' => upd val (s, y) v1 (!s, y')) = fun y => val (!s, y) := by
      funext y'
      exact upd_other _ _ (fun e => by cases s <;> simp at e)
    rw [e]; exact m3'
  · by_cases h : i = (s, y)
    · subst h
      rw [upd_same]
      rcases loc1 with e | e | e
      · rw [e]; exact hnB _
      · rw [e]; exact hnB _
      · rw [e]
        intro e2
        injection e2 with e2
        have := hB.lt
        have := hA.size
        omega
    · rw [upd_other _ _ h]; exact hnB i
end Go.Proofs.YtkjpcjmbhpfelaaGreat
