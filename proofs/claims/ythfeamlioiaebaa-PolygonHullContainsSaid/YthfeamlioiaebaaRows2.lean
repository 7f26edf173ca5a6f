/- Rows of rows that the call has made. -/
import Derived.Test.YthfeamlioiaebaaCopy
set_option linter.unusedVariables false
set_option linter.unusedSimpArgs false
namespace Go.Proofs.Ythfeamlioiaebaa
open Go.RowKit Go.Par

/-- a row of the call's own, of slices -/
def OwnR (w : World) (base : Nat) (v : Value) (vs : List Value) : Prop := w.ownsRow base 38 1 v vs.length vs
theorem OwnR.made (w : World) : OwnR (w.alloc (.cells #[] 38)) w.heap.size (.slice (some ⟨w.heap.size, 0, none⟩) 0 0) [] :=
  World.ownsRow_made w #[] 0 (Nat.le_refl _) (by decide) rfl
theorem OwnR.nil (w : World) (base : Nat) : OwnR w base (.slice none 0 0) [] := World.ownsRow_nil w base _ 1
theorem OwnR.ext {w w' : World} {base : Nat} {v : Value} {vs : List Value} (h : OwnR w base v vs) (he : Ext w w') : OwnR w' base v vs :=
  World.ownsRow.kept (row := none) h ⟨Below.os he, Below.tape he, Below.output he, Below.size he, fun k hk _ => Below.block he k hk⟩ (by cases v.ownBlock <;> simp)
theorem OwnR.at {w : World} {base : Nat} {v : Value} {vs : List Value} (h : OwnR w base v vs) : ∃ A c, v = .slice A vs.length c ∧ vs.length ≤ c ∧ (vs ≠ [] → ∃ b, A = some ⟨b, 0, none⟩ ∧ base ≤ b ∧ ∀ i u, vs[i]? = some u → w.cell? ⟨b, i, none⟩ = some u) := by
  have hcell := fun g hg => World.ownsRow.cells h (g := g) hg
  rcases h.2 with ⟨rfl, h0⟩ | ⟨g, cap, cur, rfl, hb, _, h1, h2, _⟩
  · rw [h0]
    exact ⟨_, _, rfl, Nat.le_refl _, fun hn => absurd (List.eq_nil_of_length_eq_zero h0) hn⟩
  · refine ⟨_, _, rfl, h1, fun _ => ⟨g, rfl, hb, fun i u hu => ?_⟩⟩
    have := hcell g rfl i u hu
    simpa [Addr.add_lit] using this
/-- the slices read as rows of points -/
def RowsOf (w : World) (vs : List Value) (L : List (List P2)) : Prop := vs.length = L.length ∧ ∀ (i : Nat) (r : List P2), L[i]? = some r → ∃ u, vs[i]? = some u ∧ Pts w u r
theorem RowsOf.nil (w : World) : RowsOf w [] [] := ⟨rfl, fun i r h => by simp at h⟩
theorem RowsOf.ext {w w' : World} {vs : List Value} {L : List (List P2)} (h : RowsOf w vs L) (he : Ext w w') : RowsOf w' vs L :=
  ⟨h.1, fun i r hr => by obtain ⟨u, h1, h2⟩ := h.2 i r hr; exact ⟨u, h1, h2.ext he⟩⟩
theorem RowsOf.snoc {w : World} {vs : List Value} {L : List (List P2)} {u : Value} {r : List P2} (h : RowsOf w vs L) (hu : Pts w u r) : RowsOf w (vs ++ [u]) (L ++ [r]) := by
  refine ⟨by simp [h.1], fun i q hq => ?_⟩
  by_cases hi : i < L.length
  · rw [List.getElem?_append_left hi] at hq
    obtain ⟨x, h1, h2⟩ := h.2 i q hq
    exact ⟨x, by rw [List.getElem?_append_left (by rw [h.1]; exact hi)]; exact h1, h2⟩
  · rw [List.getElem?_append_right (by omega)] at hq
    have h0 : i - L.length = 0 := by
      have := (List.getElem?_eq_some_iff.1 hq).1
      simp at this
      omega
    rw [h0] at hq
    simp only [List.getElem?_cons_zero, Option.some.injEq] at hq
    subst hq
    exact ⟨u, by rw [List.getElem?_append_right (by rw [h.1]; omega), h.1, h0]; rfl, hu⟩
theorem Rings.rows {w : World} {v : Value} {L : List (List P2)} (h : Rings w v L) : ∃ vs, RowsOf w vs L ∧ Src w 1 v vs.length vs := by
  obtain ⟨A, c, rfl, hlc, hlb, hA⟩ := h
  cases L with
  | nil =>
    refine ⟨[], RowsOf.nil w, rfl, by simp, ?_⟩
    cases A with
    | none => exact .inl ⟨⟨c, rfl⟩, rfl⟩
    | some a => exact .inr ⟨a, c, rfl, fun j u h => by simp at h⟩
  | cons r0 L =>
    obtain ⟨b, o, rfl, hc⟩ := hA (by simp)
    have each : ∀ i, i < (r0 :: L).length → ∃ u, w.cell? ⟨b, o + i, none⟩ = some u ∧ ∀ r, (r0 :: L)[i]? = some r → Pts w u r := fun i hi => by
      obtain ⟨u, h1, h2⟩ := hc i _ (List.getElem?_eq_getElem hi)
      exact ⟨u, h1, fun r hr => by rw [List.getElem?_eq_getElem hi] at hr; injection hr with hr; rw [← hr]; exact h2⟩
    have hex : ∀ n, n ≤ (r0 :: L).length → ∃ vs : List Value, vs.length = n ∧ ∀ i u, vs[i]? = some u → w.cell? ⟨b, o + i, none⟩ = some u ∧ ∀ r, (r0 :: L)[i]? = some r → Pts w u r := by
      intro n
      induction n with
      | zero => exact fun _ => ⟨[], rfl, fun i u h => by simp at h⟩
      | succ n ih =>
        intro hn
        obtain ⟨vs, h1, h2⟩ := ih (by omega)
        obtain ⟨u, h3, h4⟩ := each n (by omega)
        refine ⟨vs ++ [u], by simp [h1], fun i x hx => ?_⟩
        by_cases hi : i < n
        · rw [List.getElem?_append_left (by omega)] at hx
          exact h2 i x hx
        · rw [List.getElem?_append_right (by omega)] at hx
          have h0 : i - vs.length = 0 := by
            have := (List.getElem?_eq_some_iff.1 hx).1
            simp at this
            omega
          rw [h0] at hx
          simp only [List.getElem?_cons_zero, Option.some.injEq] at hx
          subst hx
          have : i = n := by omega
          subst this
          exact ⟨h3, h4⟩
    obtain ⟨vs, h1, h2⟩ := hex _ (Nat.le_refl _)
    have hget : ∀ i r, (r0 :: L)[i]? = some r → ∃ u, vs[i]? = some u ∧ Pts w u r := fun i r hr => by
      have hi := (List.getElem?_eq_some_iff.1 hr).1
      refine ⟨vs[i]'(by omega), List.getElem?_eq_getElem (by omega), ?_⟩
      exact (h2 i _ (List.getElem?_eq_getElem (by omega))).2 r hr
    refine ⟨vs, ⟨h1, hget⟩, by omega, fun u hu => ?_, .inr ⟨_, c, by rw [h1], fun j u hu => ?_⟩⟩
    · obtain ⟨j, hj⟩ := List.mem_iff_getElem?.1 hu
      have hjl := (List.getElem?_eq_some_iff.1 hj).1
      obtain ⟨A', c', rfl, _⟩ := (h2 j u hj).2 _ (List.getElem?_eq_getElem (by omega))
      rfl
    · rw [Addr.add_lit]
      exact (h2 j u hu).1
theorem OwnR.rings {w : World} {base : Nat} {v : Value} {vs : List Value} {L : List (List P2)} (h : OwnR w base v vs) (hr : RowsOf w vs L) (hb : L.length ≤ 17592186044416) : Rings w v L := by
  obtain ⟨A, c, rfl, hlc, hA⟩ := h.at
  refine ⟨A, c, by rw [hr.1], by rw [← hr.1]; exact hlc, hb, fun hne => ?_⟩
  obtain ⟨b, rfl, _, hc⟩ := hA (fun e => hne (List.eq_nil_of_length_eq_zero (by rw [← hr.1, e]; rfl)))
  refine ⟨b, 0, rfl, fun i r hir => ?_⟩
  obtain ⟨u, h1, h2⟩ := hr.2 i r hir
  exact ⟨u, by rw [Nat.zero_add]; exact hc i u h1, h2⟩
theorem Src.row {w : World} {b : Nat} {t : TypeId} {A : Option Addr} {n c : Nat} (h : Box w b t #[.slice A n c]) : Src w 1 (.slice (some ⟨b, 0, none⟩) 1 1) 1 [.slice A n c] := by
  refine ⟨rfl, fun u hu => by simp at hu; subst hu; rfl, .inr ⟨_, _, rfl, fun j u hu => ?_⟩⟩
  have hj := (List.getElem?_eq_some_iff.1 hu).1
  have h0 : j = 0 := by simp at hj; exact hj
  subst h0
  simp only [List.getElem?_cons_zero, Option.some.injEq] at hu
  subst hu
  rw [Addr.add_zero', h.cell]
  rfl
theorem wpList_appR {w : World} {ops : Array Oper} {rest : List Oper} {o : Oper} {a : Act} {Q : Exit → Act → World → Prop} (hgd : o.guard = none) (s x : Operand)
    (ho : o.op = .call { callee := .builtin .append, args := #[s, x], argTypes := #[22, 22] }) (base : Nat) (v sv : Value) (vs us : List Value)
    (hs : a.eval s = v) (hx : a.eval x = sv) (hown : OwnR w base v vs) (hm : Src w 1 sv us.length us) (hb : vs.length + us.length ≤ 1000000000) (hbase : base ≤ w.heap.size)
    (h : ∀ v' w', OwnR w' base v' (vs ++ us) → w.grownBy w' v.ownBlock → wpList Try.prog ops Q rest (a.put o.dst v') w') : wpList Try.prog ops Q (o :: rest) a w := by
  obtain ⟨i0, hi, hz0, hz1, hz2⟩ := info_parts info_row
  obtain ⟨v', w', hr, h2, h3⟩ := run_app base _ o.type _ i0 (.slice none 0 0) 1 24 Try.underlying22 hi hz0 hz1 hz2 rfl (by decide) v _ _ hown sv _ _ hm (by unfold maxLen; omega) (by omega) hbase
  refine Lib.wpList_append_run _ hgd _ _ _ _ ho _ _ hs hx _ _ hr (h v' w' ?_ h3)
  unfold OwnR
  rw [List.length_append]
  exact h2
theorem Src.ext {w w' : World} {size m : Nat} {sv : Value} {news : List Value} (h : Src w size sv m news) (he : Ext w w') : Src w' size sv m news := by
  obtain ⟨h1, h2, h3 | ⟨ad, c, e, h3⟩⟩ := h
  · exact ⟨h1, h2, .inl h3⟩
  · exact ⟨h1, h2, .inr ⟨ad, c, e, fun j u hu => he.cell (h3 j u hu)⟩⟩
/-- the winding number of one ring, in a slice made for it -/
theorem wind1_any (r : List P2) (A : Option Addr) (n c : Nat) (px py : Int) (W : World) (hn : n = r.length) (hnc : n ≤ c) (hb : n ≤ 17592186044416) (hP : PtsAt W A r) :
    Calls Try.prog 20 #[.slice (some ⟨W.heap.size, 0, none⟩) 1 1, .agg #[.int .i64 px, .int .i64 py]] (W.alloc (.cells #[.slice A n c] 38)) fun e w' => e = .returned (.int .i64 (windL [r] (px, py))) ∧ Ext W w' := by
  subst hn
  exact (Winding_any [r] (some ⟨W.heap.size, 0, none⟩) 1 px py _ (by simp) (RingsAt.one (Box.new _ _ _) hnc hb (hP.ext (Ext.alloc _ _)))).mono fun e w' ⟨h1, h2⟩ => ⟨h1, (Ext.alloc _ _).trans h2⟩
theorem Own.at {w : World} {base : Nat} {v : Value} {l : List P2} {n : Nat} (h : Own w base v l) (hn : l.length = n) (hb : n ≤ 17592186044416) : ∃ A c, v = .slice A n c ∧ n ≤ c ∧ PtsAt w A l := by
  subst hn
  obtain ⟨A, c, e, h1, h2, h3⟩ := h.pts hb
  exact ⟨A, c, e, h1, h3⟩
/-! ## an append in a region that draws its order -/
/-- the first append to a row without room: nothing that was there changes -/
theorem run_app0 {w : World} {B b : Nat} {l : List P2} {sv : Value} (ty : TypeId) (hm : Pts w sv l) (hb : l.length ≤ 1000000000) (hB : B ≤ w.heap.size) (hbb : B ≤ b) (hbx : Box w b 24 #[]) :
    ∃ v' w', (Builtin.append_ #[38, 38] ty #[.slice (some ⟨b, 0, none⟩) 0 0, sv]).run Try.prog w = .ok v' w' ∧ Own w' B v' l ∧ Ext w w' := by
  obtain ⟨i0, hi, hz0, hz1, hz2⟩ := info_parts info_pt
  have hown : Own w B (.slice (some ⟨b, 0, none⟩) 0 0) [] := ⟨rfl, .inr ⟨b, 0, #[], rfl, hbb, hbx, Nat.le_refl _, by decide, rfl, rfl⟩⟩
  by_cases h0 : l.length = 0
  · have e : l = [] := List.eq_nil_of_length_eq_zero h0
    subst e
    obtain ⟨A, c, rfl, _⟩ := hm
    refine ⟨.slice (some ⟨b, 0, none⟩) 0 0, w, ?_, hown, Ext.refl w⟩
    cases A <;> simp [Builtin.append_, run_underlying Try.underlying38, sizeOf, typeInfo, hi, Builtin.lenOf, Builtin.firstCells, storeCells, loadCells, loadCellsFrom]
  · obtain ⟨h1, h2, ⟨_, h3⟩ | ⟨ad, c, rfl, h3⟩⟩ := hm.src
    · exact absurd h3 h0
    · have hr := run_append_grow (P := Try.prog) (w := w) 38 ty 24 i0 _ Try.underlying38 hi hz0 ⟨b, 0, none⟩ 0 0 [] (by simp) (fun j v h => by simp at h) ad l.length c (ptCells l) (by rw [hz1]; exact h1) h3 (by omega) (by omega) (growslice_fits (by omega) (by rw [hz2]; omega))
      refine ⟨_, _, hr, ?_, (Ext.drew w).trans (Ext.alloc _ _)⟩
      have hge := grownCap_ge w (0 + l.length) 0 24
      have hcm := grownCap_le_maxLen w (0 + l.length) 0 24 (by unfold maxLen; omega)
      generalize grownCap w (0 + l.length) 0 24 = G at *
      refine ⟨ptCells_length l, .inr ⟨w.heap.size, G, _, by rw [Nat.zero_add], hB, heap_alloc_new w.drew _, by omega, hcm, ?_, ?_⟩⟩
      · simp only [Array.size_append, List.size_toArray, size_zeroCells, ptCells_length, List.length_nil]
        show 0 + l.length * 2 + (G - (0 + l.length)) * 2 = G * 2
        omega
      · rw [← ptCells_length l]
        simp only [Array.toList_append, List.nil_append, List.append_assoc]
        exact List.take_left
def ROwn (B : Nat) (l : List P2) : VP := fun v w => Own w B v l ∧ B ≤ w.heap.size
theorem ROwn.stable (B : Nat) (l : List P2) : Stable (ROwn B l) := fun _ _ _ ⟨h, hb⟩ he => ⟨h.ext he, Nat.le_trans hb he.size⟩
theorem relStep_app {P : Program} {ops : Array Oper} {o : Oper} {a : Act} {w1 : World} {R : VP} (hw : Region.wanted o (yielded ops a.tmps) = true) (s x : Operand) (t : TypeId)
    (ho : o.op = .call { callee := .builtin .append, args := #[s, x], argTypes := #[t, t] }) {v sv : Value} (hs : a.eval s = v) (hx : a.eval x = sv) {v' : Value} {w' : World}
    (hr : (Builtin.append_ #[t, t] o.type #[v, sv]).run P w1 = .ok v' w') (hE : Ext w1 w') (hR : R v' w') : relStep P ops o (.rel R false) w1 a := by
  rw [relStep_def, if_pos hw]
  unfold execOp
  simp only [ho, resolve, invoke, builtin, Sem.run_bind, Sem.run_pure, Result.andThen_ok, List.map_toArray, List.map_cons, List.map_nil, hs, hx, hr]
  exact ⟨hE, hR, fun h => by cases h⟩
theorem PtsAt.drop {w : World} {b o : Nat} {l : List P2} (h : PtsAt w (some ⟨b, o, none⟩) l) (k : Nat) : PtsAt w (some ⟨b, o + k * 2, none⟩) (l.drop k) := fun hne => by
  obtain ⟨b', o', e, hc⟩ := h (fun e => hne (by rw [e, List.drop_nil]))
  injection e with e; injection e with e1 e2; subst e1 e2
  refine ⟨b, o + k * 2, rfl, fun i p hp => ?_⟩
  rw [List.getElem?_drop] at hp
  have := hc _ p hp
  rw [show o + k * 2 + i * 2 = o + (k + i) * 2 by omega]
  exact this
theorem PtsAt.take {w : World} {A : Option Addr} {l : List P2} (h : PtsAt w A l) (k : Nat) : PtsAt w A (l.take k) := fun hne => by
  obtain ⟨b, o, e, hc⟩ := h (fun e => hne (by rw [e, List.take_nil]))
  refine ⟨b, o, e, fun i p hp => hc i p ?_⟩
  rw [List.getElem?_take] at hp
  split at hp
  · exact hp
  · cases hp
end Go.Proofs.Ythfeamlioiaebaa
