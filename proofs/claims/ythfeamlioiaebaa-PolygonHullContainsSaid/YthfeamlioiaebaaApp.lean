/- Rows that the call has made: appending points and slices of points. -/
import Derived.Test.YthfeamlioiaebaaFills
import Derived.Laws.AppendOwn
import Derived.Laws.OwnMore
import Derived.Lib.AppendZerosOnto
set_option linter.unusedVariables false
set_option linter.unusedSimpArgs false
namespace Go.Proofs.Ythfeamlioiaebaa
open Go.RowKit Go.Par

/-- the cells of points, in a row -/
def ptCells (l : List P2) : List Value := l.flatMap fun p => [.int .i64 p.1, .int .i64 p.2]
theorem ptCells_nil : ptCells [] = [] := rfl
theorem ptCells_cons (p : P2) (l : List P2) : ptCells (p :: l) = .int .i64 p.1 :: .int .i64 p.2 :: ptCells l := rfl
theorem ptCells_append (l m : List P2) : ptCells (l ++ m) = ptCells l ++ ptCells m := List.flatMap_append
theorem ptCells_length (l : List P2) : (ptCells l).length = l.length * 2 := by
  induction l with
  | nil => rfl
  | cons p l ih => rw [ptCells_cons]; simp only [List.length_cons, ih]; omega
theorem ptCells_at {l : List P2} {i : Nat} {p : P2} (h : l[i]? = some p) : (ptCells l)[i * 2]? = some (.int .i64 p.1) ∧ (ptCells l)[i * 2 + 1]? = some (.int .i64 p.2) := by
  induction l generalizing i with
  | nil => simp at h
  | cons q l ih =>
    rw [ptCells_cons]
    cases i with
    | zero => simp at h; subst h; simp
    | succ i =>
      have := ih (i := i) (by simpa using h)
      rw [show (i + 1) * 2 = i * 2 + 2 by omega]
      simpa using this
theorem ptCells_at' {l : List P2} {j : Nat} {u : Value} (h : (ptCells l)[j]? = some u) : ∃ i p, l[i]? = some p ∧ (j = i * 2 ∧ u = .int .i64 p.1 ∨ j = i * 2 + 1 ∧ u = .int .i64 p.2) := by
  have hlt := (List.getElem?_eq_some_iff.1 h).1
  rw [ptCells_length] at hlt
  have hi : j / 2 < l.length := by omega
  obtain ⟨p, hp⟩ : ∃ p, l[j / 2]? = some p := ⟨_, List.getElem?_eq_getElem hi⟩
  have := ptCells_at hp
  refine ⟨j / 2, p, hp, ?_⟩
  rcases Nat.mod_two_eq_zero_or_one j with hm | hm
  · rw [show j / 2 * 2 = j by omega] at this
    rw [this.1] at h
    exact .inl ⟨by omega, (by injection h with h; exact h.symm)⟩
  · rw [show j / 2 * 2 + 1 = j by omega] at this
    rw [this.2] at h
    exact .inr ⟨by omega, (by injection h with h; exact h.symm)⟩
theorem ptCells_one (l : List P2) : ∀ u ∈ ptCells l, u.oneCell' = true := by
  intro u hu
  obtain ⟨j, hj⟩ := List.mem_iff_getElem?.1 hu
  obtain ⟨i, p, _, ⟨_, rfl⟩ | ⟨_, rfl⟩⟩ := ptCells_at' hj <;> rfl

/-- what an append reads -/
def Src (w : World) (size : Nat) (sv : Value) (m : Nat) (news : List Value) : Prop :=
  news.length = m * size ∧ (∀ u ∈ news, u.oneCell' = true) ∧ ((∃ c, sv = .slice none 0 c) ∧ m = 0 ∨ ∃ ad c, sv = .slice (some ad) m c ∧ ∀ j u, news[j]? = some u → w.cell? (ad.add j) = some u)
theorem Pts.src {w : World} {v : Value} {l : List P2} (h : Pts w v l) : Src w 2 v l.length (ptCells l) := by
  obtain ⟨A, c, rfl, _, _, hA⟩ := h
  refine ⟨ptCells_length l, ptCells_one l, ?_⟩
  cases A with
  | none =>
    cases l with
    | nil => exact .inl ⟨⟨c, rfl⟩, rfl⟩
    | cons p l => obtain ⟨b, o, e, _⟩ := hA (by simp); cases e
  | some ad =>
    refine .inr ⟨ad, c, rfl, fun j u hu => ?_⟩
    obtain ⟨i, p, hp, hj⟩ := ptCells_at' hu
    obtain ⟨b, o, e, hc⟩ := hA (by rintro rfl; simp at hp)
    injection e with e
    subst e
    have := hc i p hp
    rcases hj with ⟨rfl, rfl⟩ | ⟨rfl, rfl⟩
    · rw [Addr.add_lit]
      exact this.1
    · have := this.2
      rw [Nat.add_assoc] at this
      rw [Addr.add_lit]
      exact this
/-- a row of the call's own, of points -/
def Own (w : World) (base : Nat) (v : Value) (l : List P2) : Prop := w.ownsRow base 24 2 v l.length (ptCells l)
theorem Own.nil (w : World) (base : Nat) : Own w base (.slice none 0 0) [] := World.ownsRow_nil w base _ 2
theorem Own.ext {w w' : World} {base : Nat} {v : Value} {l : List P2} (h : Own w base v l) (he : Ext w w') : Own w' base v l :=
  World.ownsRow.kept (row := none) h ⟨Below.os he, Below.tape he, Below.output he, Below.size he, fun k hk _ => Below.block he k hk⟩ (by cases v.ownBlock <;> simp)
theorem Own.len {w : World} {base : Nat} {v : Value} {l : List P2} (h : Own w base v l) : ∃ A c, v = .slice A l.length c ∧ l.length ≤ c ∧ c ≤ maxLen := by
  rcases h.2 with ⟨rfl, h0⟩ | ⟨g, cap, cur, rfl, _, _, h1, h2, _⟩
  · rw [h0]; exact ⟨_, _, rfl, Nat.le_refl _, by decide⟩
  · exact ⟨_, _, rfl, h1, h2⟩
theorem Own.pts {w : World} {base : Nat} {v : Value} {l : List P2} (h : Own w base v l) (hb : l.length ≤ 17592186044416) : Pts w v l := by
  have hcell := fun g hg => World.ownsRow.cells h (g := g) hg
  rcases h.2 with ⟨rfl, h0⟩ | ⟨g, cap, cur, rfl, _, _, h1, h2, _⟩
  · have : l = [] := List.eq_nil_of_length_eq_zero h0
    subst this
    exact ⟨none, 0, rfl, Nat.le_refl _, hb, PtsAt.nil w _⟩
  · refine ⟨_, _, rfl, h1, hb, fun _ => ⟨g, 0, rfl, fun i p hp => ?_⟩⟩
    have := ptCells_at hp
    have c := hcell g rfl
    refine ⟨?_, ?_⟩
    · have := c _ _ this.1
      simpa [Addr.add_lit] using this
    · have := c _ _ this.2
      simpa [Addr.add_lit] using this
theorem Ext.grow {w0 w w' : World} {base : Nat} {e : TypeId} {size n : Nat} {v : Value} {xs : List Value} (h : Ext w0 w) (hown : w.ownsRow base e size v n xs) (hb : w0.heap.size ≤ base) (hg : w.grownBy w' v.ownBlock) : Ext w0 w' :=
  ⟨(hg.os).trans (Below.os h), (hg.tape).trans (Below.tape h), (hg.output).trans (Below.output h), Nat.le_trans (Below.size h) hg.size, fun i hi =>
    (hg.block i (Nat.lt_of_lt_of_le hi (Below.size h)) (fun e => by have := (hown.lt i e.symm).1; omega)).trans (Below.block h i hi)⟩
theorem info_pt : (Try.prog.info? 24).map (fun i => (i.zero, i.size, i.bytes)) = some (some (.agg #[.int .i64 0, .int .i64 0]), 2, 16) := by kernel_rfl
theorem info_row : (Try.prog.info? 38).map (fun i => (i.zero, i.size, i.bytes)) = some (some (.slice none 0 0), 1, 24) := by kernel_rfl
section
variable {w : World}
theorem run_app (base : Nat) (t ty e : TypeId) (i : TypeInfo) (z : Value) (size bytes : Nat) (ht : Try.prog.underlying t = some (.slice e)) (hi : Try.prog.info? e = some i) (hz : i.zero = some z)
    (hsize : i.size = size) (hby : i.bytes = bytes) (hzs : z.cells.size = size) (hsz : 0 < size)
    (v : Value) (n : Nat) (xs : List Value) (hown : w.ownsRow base e size v n xs) (sv : Value) (m : Nat) (news : List Value) (hs : Src w size sv m news)
    (h63 : n + m ≤ maxLen) (hbytes : (n + m) * bytes ≤ 140737488355328) (hbase : base ≤ w.heap.size) :
    ∃ v' w', (Builtin.append_ #[t, t] ty #[v, sv]).run Try.prog w = .ok v' w' ∧ w'.ownsRow base e size v' (n + m) (xs ++ news) ∧ w.grownBy w' v.ownBlock := by
  obtain ⟨h1, h2, ⟨⟨c, rfl⟩, rfl⟩ | ⟨ad, c, rfl, h3⟩⟩ := hs
  · have hn : news = [] := List.eq_nil_of_length_eq_zero (by simpa using h1)
    subst hn
    refine ⟨v, w, ?_, by simpa using hown, ⟨rfl, rfl, rfl, Nat.le_refl _, fun _ _ _ => rfl⟩⟩
    rcases hown.2 with ⟨rfl, rfl⟩ | ⟨g, cap, cur, rfl, _, _, hnc, _⟩
    · simp [Builtin.append_, run_underlying ht, sizeOf, typeInfo, hi, Builtin.lenOf, Builtin.firstCells]
    · simp [Builtin.append_, run_underlying ht, sizeOf, typeInfo, hi, Builtin.lenOf, Builtin.firstCells, hnc, storeCells]
  · obtain ⟨v', w', a1, a2, a3, _⟩ := run_append_own (P := Try.prog) w base t ty e i z size bytes ht hi hz hsize hby hzs hsz v n xs hown ad m c news h1 h3 h2 h63 hbytes hbase
    exact ⟨v', w', a1, a2, a3⟩
theorem wpList_app {ops : Array Oper} {rest : List Oper} {o : Oper} {a : Act} {Q : Exit → Act → World → Prop} (hgd : o.guard = none) (s x : Operand)
    (ho : o.op = .call { callee := .builtin .append, args := #[s, x], argTypes := #[38, 38] }) (base : Nat) (v sv : Value) (l m : List P2)
    (hs : a.eval s = v) (hx : a.eval x = sv) (hown : Own w base v l) (hm : Pts w sv m) (hb : l.length + m.length ≤ 1000000000) (hbase : base ≤ w.heap.size)
    (h : ∀ v' w', Own w' base v' (l ++ m) → w.grownBy w' v.ownBlock → wpList Try.prog ops Q rest (a.put o.dst v') w') : wpList Try.prog ops Q (o :: rest) a w := by
  obtain ⟨i0, hi, hz0, hz1, hz2⟩ := info_parts info_pt
  obtain ⟨v', w', hr, h2, h3⟩ := run_app base _ o.type _ i0 (.agg #[.int .i64 0, .int .i64 0]) 2 16 Try.underlying38 hi hz0 hz1 hz2 rfl (by decide) v _ _ hown sv _ _ hm.src (by unfold maxLen; omega) (by omega) hbase
  refine Lib.wpList_append_run _ hgd _ _ _ _ ho _ _ hs hx _ _ hr (h v' w' ?_ h3)
  unfold Own
  rw [List.length_append, ptCells_append]
  exact h2
end
set_option maxRecDepth 100000 in
set_option maxHeartbeats 1600000 in
/-- slices.Grow at the nil slice -/
theorem Grow_any (n : Nat) (w : World) (hn : n ≤ 1000000000) :
    Calls Try.prog 85 #[.slice none 0 0, .int .i64 n] w fun e w' => ∃ v, e = .returned v ∧ Ext w w' ∧ Own w' w.heap.size v [] := by
  by_cases h0 : n = 0
  · subst h0
    go_enter Try.func85, Try.ntmps85
    go_wp2
    go_ret
    exact ⟨_, rfl, Ext.refl w, Own.nil w _⟩
  · obtain ⟨i0, hi, hz0, hz1, hz2⟩ := info_parts info_pt
    have hold : (Builtin.firstCells i0.size 0 (.slice none 0 0)).run Try.prog w.drew = .ok (List.toArray []) w.drew := run_firstCells_none w.drew i0.size 0 0 0
    have hrz : ∀ ty, (Builtin.append_ #[38, 3] ty #[.slice none 0 0, .int .i64 n]).run Try.prog w = _ := fun ty =>
      Lib.run_append_grow_zeros w 38 3 ty 24 i0 _ .i64 .i64 Try.underlying38 Try.underlying3 hi hz0 none 0 0 [] hold n (by omega) (by rw [hz1]; decide) (by omega) (by omega) (by rw [hz2]; omega)
        (growslice_fits (by omega) (by rw [hz2]; omega))
    have hG := grownCap_ge w (0 + n) 0 24
    have hG' := grownCap_le_maxLen w (0 + n) 0 24 (by unfold maxLen; omega)
    generalize grownCap w (0 + n) 0 24 = G at *
    have hsz : ((List.toArray ([] : List Value)) ++ Builtin.zeroCells (Value.agg #[.int .i64 0, .int .i64 0]).cells n ++ Builtin.zeroCells (Value.agg #[.int .i64 0, .int .i64 0]).cells (G - (0 + n))).size = G * 2 := by
      simp only [Array.size_append, size_zeroCells]
      show 0 + n * 2 + (G - (0 + n)) * 2 = G * 2
      omega
    generalize ((List.toArray ([] : List Value)) ++ Builtin.zeroCells (Value.agg #[.int .i64 0, .int .i64 0]).cells n ++ Builtin.zeroCells (Value.agg #[.int .i64 0, .int .i64 0]).cells (G - (0 + n))) = cs at *
    have HS := Lib.hid hsz
    have hGi : (G : Int) ≤ 9223372036854775807 := by unfold maxLen at hG'; omega
    have HG := Lib.hid hG'
    clear hsz hG' hold hi hz0 hz1 hz2
    go_enter Try.func85, Try.ntmps85
    go_wp2_with (at_builtin; refine Lib.wpList_append_run _ rfl _ _ _ _ rfl _ _ rfl rfl _ _ (hrz _) ?_)
    go_ret
    exact ⟨_, rfl, (Ext.drew w).trans (Ext.alloc _ _), World.ownsRow_made w.drew cs G (Nat.le_refl _) HG.out HS.out⟩
end Go.Proofs.Ythfeamlioiaebaa
