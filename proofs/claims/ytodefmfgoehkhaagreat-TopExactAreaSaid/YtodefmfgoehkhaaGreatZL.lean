/- Texts put together: App, Concat, Bounds, Bounds2. -/
import Derived.Test.YtodefmfgoehkhaaGreatZK
import Derived.Test.YtodefmfgoehkhaaGreatZB
import Derived.Laws.AppendOwn
import Derived.Laws.OwnMore
import Derived.Lib.AppendZerosOnto
import Derived.Deep.RegionHeld3
/- Rows that the call has made: appending points and slices of points. -/
set_option linter.unusedVariables false
set_option linter.unusedSimpArgs false
namespace Go.Proofs.YtodefmfgoehkhaaGreat
open Go.RowKit Go.Par

/-- the cells of points, in a row -/
def ptCells (l : List P2) : List Value := l.flatMap fun p => [.int .i64 p.1, .int .i64 p.2]
theorem ptCells_nil : ptCells [] = [] := rfl
theorem ptCells_cons (p : P2) (l : List P2) : ptCells (p :: l) = .int .i64 p.1 :: .int .i64 p.2 :: ptCells l := rfl
theorem ptCells_append (l m : List P2) : ptCells (l ++ m) = ptCells l ++ ptCells m := List.flatMap_append
theorem ptCells_length (l : List P2) : (ptCells l).length = l.length * 2 := by
  induction l with
  | nil => rfl
  | cons p l ih => rw [ptCells_cons]; simp only [List.length_cons, ih]; omega
theorem ptCells_at {l : List P2} {i : Nat} {p : P2} (h : l[i]? = some p) : (ptCells l)[i * 2]? = some (.int .i64 p.1) ∧ (ptCells l)[i * 2 + 1]? = some (.int .i64 p.2) := by
  induction l generalizing i with
  | nil => simp at h
  | cons q l ih =>
    rw [ptCells_cons]
    cases i with
    | zero => simp at h; subst h; simp
    | succ i =>
      have := ih (i := i) (by simpa using h)
      rw [show (i + 1) * 2 = i * 2 + 2 by omega]
      simpa using this
theorem ptCells_at' {l : List P2} {j : Nat} {u : Value} (h : (ptCells l)[j]? = some u) : ∃ i p, l[i]? = some p ∧ (j = i * 2 ∧ u = .int .i64 p.1 ∨ j = i * 2 + 1 ∧ u = .int .i64 p.2) := by
  have hlt := (List.getElem?_eq_some_iff.1 h).1
  rw [ptCells_length] at hlt
  have hi : j / 2 < l.length := by omega
  obtain ⟨p, hp⟩ : ∃ p, l[j / 2]? = some p := ⟨_, List.getElem?_eq_getElem hi⟩
  have := ptCells_at hp
  refine ⟨j / 2, p, hp, ?_⟩
  rcases Nat.mod_two_eq_zero_or_one j with hm | hm
  · rw [show j / 2 * 2 = j by omega] at this
    rw [this.1] at h
    exact .inl ⟨by omega, (by injection h with h; exact h.symm)⟩
  · rw [show j / 2 * 2 + 1 = j by omega] at this
    rw [this.2] at h
    exact .inr ⟨by omega, (by injection h with h; exact h.symm)⟩
theorem ptCells_one (l : List P2) : ∀ u ∈ ptCells l, u.oneCell' = true := by
  intro u hu
  obtain ⟨j, hj⟩ := List.mem_iff_getElem?.1 hu
  obtain ⟨i, p, _, ⟨_, rfl⟩ | ⟨_, rfl⟩⟩ := ptCells_at' hj <;> rfl

/-- what an append reads -/
def Src (w : World) (size : Nat) (sv : Value) (m : Nat) (news : List Value) : Prop :=
  news.length = m * size ∧ (∀ u ∈ news, u.oneCell' = true) ∧ ((∃ c, sv = .slice none 0 c) ∧ m = 0 ∨ ∃ ad c, sv = .slice (some ad) m c ∧ ∀ j u, news[j]? = some u → w.cell? (ad.add j) = some u)
theorem Pts.src {w : World} {v : Value} {l : List P2} (h : Pts w v l) : Src w 2 v l.length (ptCells l) := by
  obtain ⟨A, c, rfl, _, _, hA⟩ := h
  refine ⟨ptCells_length l, ptCells_one l, ?_⟩
  cases A with
  | none =>
    cases l with
    | nil => exact .inl ⟨⟨c, rfl⟩, rfl⟩
    | cons p l => obtain ⟨b, o, e, _⟩ := hA (by simp); cases e
  | some ad =>
    refine .inr ⟨ad, c, rfl, fun j u hu => ?_⟩
    obtain ⟨i, p, hp, hj⟩ := ptCells_at' hu
    obtain ⟨b, o, e, hc⟩ := hA (by rintro rfl; simp at hp)
    injection e with e
    subst e
    have := hc i p hp
    rcases hj with ⟨rfl, rfl⟩ | ⟨rfl, rfl⟩
    · rw [Addr.add_lit]
      exact this.1
    · have := this.2
      rw [Nat.add_assoc] at this
      rw [Addr.add_lit]
      exact this
/-- a row of the call's own, of points -/
def Own (w : World) (base : Nat) (v : Value) (l : List P2) : Prop := w.ownsRow base 49 2 v l.length (ptCells l)
theorem Own.nil (w : World) (base : Nat) : Own w base (.slice none 0 0) [] := World.ownsRow_nil w base _ 2
theorem Own.ext {w w' : World} {base : Nat} {v : Value} {l : List P2} (h : Own w base v l) (he : Ext w w') : Own w' base v l :=
  World.ownsRow.kept (row := none) h ⟨Below.os he.1, Below.tape he.1, Below.output he.1, Below.size he.1, fun k hk _ => Below.block he.1 k hk⟩ (by cases v.ownBlock <;> simp)
theorem Own.len {w : World} {base : Nat} {v : Value} {l : List P2} (h : Own w base v l) : ∃ A c, v = .slice A l.length c ∧ l.length ≤ c ∧ c ≤ maxLen := by
  rcases h.2 with ⟨rfl, h0⟩ | ⟨g, cap, cur, rfl, _, _, h1, h2, _⟩
  · rw [h0]; exact ⟨_, _, rfl, Nat.le_refl _, by decide⟩
  · exact ⟨_, _, rfl, h1, h2⟩
theorem Own.pts {w : World} {base : Nat} {v : Value} {l : List P2} (h : Own w base v l) (hb : l.length ≤ 17592186044416) : Pts w v l := by
  have hcell := fun g hg => World.ownsRow.cells h (g := g) hg
  rcases h.2 with ⟨rfl, h0⟩ | ⟨g, cap, cur, rfl, _, _, h1, h2, _⟩
  · have : l = [] := List.eq_nil_of_length_eq_zero h0
    subst this
    exact ⟨none, 0, rfl, Nat.le_refl _, hb, PtsAt.nil w _⟩
  · refine ⟨_, _, rfl, h1, hb, fun _ => ⟨g, 0, rfl, fun i p hp => ?_⟩⟩
    have := ptCells_at hp
    have c := hcell g rfl
    refine ⟨?_, ?_⟩
    · have := c _ _ this.1
      simpa [Addr.add_lit] using this
    · have := c _ _ this.2
      simpa [Addr.add_lit] using this
theorem Ext.grow {w0 w w' : World} {base : Nat} {e : TypeId} {size n : Nat} {v : Value} {xs : List Value} (h : Ext w0 w) (hown : w.ownsRow base e size v n xs) (hb : w0.heap.size ≤ base) (hg : Grown w w' v.ownBlock) : Ext w0 w' :=
  ⟨⟨(hg.os).trans (Below.os h.1), (hg.tape).trans (Below.tape h.1), (hg.output).trans (Below.output h.1), Nat.le_trans (Below.size h.1) hg.size, fun i hi =>
    (hg.block i (Nat.lt_of_lt_of_le hi (Below.size h.1)) (fun e => by have := (hown.lt i e.symm).1; omega)).trans (Below.block h.1 i hi)⟩, Nat.le_trans h.2 hg.drawn⟩
theorem info_pt : (Tryz.prog.info? 49).map (fun i => (i.zero, i.size, i.bytes)) = some (some (.agg #[.int .i64 0, .int .i64 0]), 2, 16) := by kernel_rfl
theorem info_row : (Tryz.prog.info? 47).map (fun i => (i.zero, i.size, i.bytes)) = some (some (.slice none 0 0), 1, 24) := by kernel_rfl
section
variable {w : World}
theorem run_app (base : Nat) (t ty e : TypeId) (i : TypeInfo) (z : Value) (size bytes : Nat) (ht : Tryz.prog.underlying t = some (.slice e)) (hi : Tryz.prog.info? e = some i) (hz : i.zero = some z)
    (hsize : i.size = size) (hby : i.bytes = bytes) (hzs : z.cells.size = size) (hsz : 0 < size)
    (v : Value) (n : Nat) (xs : List Value) (hown : w.ownsRow base e size v n xs) (sv : Value) (m : Nat) (news : List Value) (hs : Src w size sv m news)
    (h63 : n + m ≤ maxLen) (hbytes : (n + m) * bytes ≤ 140737488355328) (hbase : base ≤ w.heap.size) :
    ∃ v' w', (Builtin.append_ #[t, t] ty #[v, sv]).run Tryz.prog w = .ok v' w' ∧ w'.ownsRow base e size v' (n + m) (xs ++ news) ∧ Grown w w' v.ownBlock := by
  obtain ⟨h1, h2, ⟨⟨c, rfl⟩, rfl⟩ | ⟨ad, c, rfl, h3⟩⟩ := hs
  · have hn : news = [] := List.eq_nil_of_length_eq_zero (by simpa using h1)
    subst hn
    refine ⟨v, w, ?_, by simpa using hown, ⟨⟨rfl, rfl, rfl, Nat.le_refl _, fun _ _ _ => rfl⟩, Nat.le_refl _⟩⟩
    rcases hown.2 with ⟨rfl, rfl⟩ | ⟨g, cap, cur, rfl, _, _, hnc, _⟩
    · simp [Builtin.append_, run_underlying ht, sizeOf, typeInfo, hi, Builtin.lenOf, Builtin.firstCells]
    · simp [Builtin.append_, run_underlying ht, sizeOf, typeInfo, hi, Builtin.lenOf, Builtin.firstCells, hnc, storeCells]
  · obtain ⟨v', w', a1, a2, a3, _⟩ := run_append_own (P := Tryz.prog) w base t ty e i z size bytes ht hi hz hsize hby hzs hsz v n xs hown ad m c news h1 h3 h2 h63 hbytes hbase
    exact ⟨v', w', a1, a2, a3, run_drawn _ _ _ _ _ a1⟩
theorem wpList_app {ops : Array Oper} {rest : List Oper} {o : Oper} {a : Act} {Q : Exit → Act → World → Prop} (hgd : o.guard = none) (s x : Operand)
    (ho : o.op = .call { callee := .builtin .append, args := #[s, x], argTypes := #[47, 47] }) (base : Nat) (v sv : Value) (l m : List P2)
    (hs : a.eval s = v) (hx : a.eval x = sv) (hown : Own w base v l) (hm : Pts w sv m) (hb : l.length + m.length ≤ 1000000000) (hbase : base ≤ w.heap.size)
    (h : ∀ v' w', Own w' base v' (l ++ m) → Grown w w' v.ownBlock → wpList Tryz.prog ops Q rest (a.put o.dst v') w') : wpList Tryz.prog ops Q (o :: rest) a w := by
  obtain ⟨i0, hi, hz0, hz1, hz2⟩ := info_parts info_pt
  obtain ⟨v', w', hr, h2, h3⟩ := run_app base _ o.type _ i0 (.agg #[.int .i64 0, .int .i64 0]) 2 16 Tryz.underlying47 hi hz0 hz1 hz2 rfl (by decide) v _ _ hown sv _ _ hm.src (by unfold maxLen; omega) (by omega) hbase
  refine Lib.wpList_append_run _ hgd _ _ _ _ ho _ _ hs hx _ _ hr (h v' w' ?_ h3)
  unfold Own
  rw [List.length_append, ptCells_append]
  exact h2
end
set_option maxRecDepth 100000 in
set_option maxHeartbeats 1600000 in
/-- slices.Grow at the nil slice -/
theorem Grow_any (n : Nat) (w : World) (hn : n ≤ 1000000000) :
    Calls Tryz.prog 65 #[.slice none 0 0, .int .i64 n] w fun e w' => ∃ v, e = .returned v ∧ Ext w w' ∧ Own w' w.heap.size v [] := by
  by_cases h0 : n = 0
  · subst h0
    go_enter Tryz.func65, Tryz.ntmps65
    go_wp2
    go_ret
    exact ⟨_, rfl, Ext.refl w, Own.nil w _⟩
  · obtain ⟨i0, hi, hz0, hz1, hz2⟩ := info_parts info_pt
    have hold : (Builtin.firstCells i0.size 0 (.slice none 0 0)).run Tryz.prog w.drew = .ok (List.toArray []) w.drew := run_firstCells_none w.drew i0.size 0 0 0
    have hrz : ∀ ty, (Builtin.append_ #[47, 3] ty #[.slice none 0 0, .int .i64 n]).run Tryz.prog w = _ := fun ty =>
      Lib.run_append_grow_zeros w 47 3 ty 49 i0 _ .i64 .i64 Tryz.underlying47 Tryz.underlying3 hi hz0 none 0 0 [] hold n (by omega) (by rw [hz1]; decide) (by omega) (by omega) (by rw [hz2]; omega)
        (growslice_fits (by omega) (by rw [hz2]; omega))
    have hG := grownCap_ge w (0 + n) 0 49
    have hG' := grownCap_le_maxLen w (0 + n) 0 49 (by unfold maxLen; omega)
    generalize grownCap w (0 + n) 0 49 = G at *
    have hsz : ((List.toArray ([] : List Value)) ++ Builtin.zeroCells (Value.agg #[.int .i64 0, .int .i64 0]).cells n ++ Builtin.zeroCells (Value.agg #[.int .i64 0, .int .i64 0]).cells (G - (0 + n))).size = G * 2 := by
      simp only [Array.size_append, size_zeroCells]
      show 0 + n * 2 + (G - (0 + n)) * 2 = G * 2
      omega
    generalize ((List.toArray ([] : List Value)) ++ Builtin.zeroCells (Value.agg #[.int .i64 0, .int .i64 0]).cells n ++ Builtin.zeroCells (Value.agg #[.int .i64 0, .int .i64 0]).cells (G - (0 + n))) = cs at *
    have HS := Lib.hid hsz
    have hGi : (G : Int) ≤ 9223372036854775807 := by unfold maxLen at hG'; omega
    have HG := Lib.hid hG'
    clear hsz hG' hold hi hz0 hz1 hz2
    go_enter Tryz.func65, Tryz.ntmps65
    go_wp2_with (at_builtin; refine Lib.wpList_append_run _ rfl _ _ _ _ rfl _ _ rfl rfl _ _ (hrz _) ?_)
    go_ret
    exact ⟨_, rfl, (Ext.drew w).trans (Ext.alloc _ _), World.ownsRow_made w.drew cs G (Nat.le_refl _) HG.out HS.out⟩
end Go.Proofs.YtodefmfgoehkhaaGreat

/- slices.Concat of rows of points. -/
set_option linter.unusedVariables false
set_option linter.unusedSimpArgs false
namespace Go.Proofs.YtodefmfgoehkhaaGreat
open Go.RowKit Go.Par

theorem flatten_take_succ {L : List (List P2)} {k : Nat} {r : List P2} (h : L[k]? = some r) : (L.take (k + 1)).flatten = (L.take k).flatten ++ r := by
  rw [List.take_add_one, h]
  simp
theorem flatten_length (L : List (List P2)) : L.flatten.length = lenS L := by
  unfold lenS
  rw [List.length_flatten]

set_option maxRecDepth 100000 in
set_option maxHeartbeats 1600000 in
theorem Concat_any (L : List (List P2)) (A : Option Addr) (c : Nat) (w : World) (hc : L.length ≤ 17592186044416) (hL : RingsAt w A L) (hS : lenS L ≤ 1000000) :
    Calls Tryz.prog 37 #[.slice A L.length c] w fun e w' => ∃ v, e = .returned v ∧ Ext w w' ∧ Pts w' v L.flatten := by
  obtain ⟨n, hn⟩ : ∃ n, n = L.length := ⟨_, rfl⟩
  rw [← hn]
  have HN := Lib.hid hn
  rw [← hn] at hc
  have HSZ := Lib.hid hS
  clear hn hS
  go_enter Tryz.func37, Tryz.ntmps37
  go_wp2_with fail
  go_loopw [3, 5, 11] (fun s _ i wr => ∃ k : Nat, k ≤ n ∧ i = .int .i64 k ∧ s = .int .i64 (lenS (L.take k) : Nat) ∧ Ext w wr) (fun _ _ i _ => n - (intOf i).toNat)
  case atStart => exact ⟨0, Nat.zero_le _, rfl, rfl, Ext.refl _⟩
  case round =>
    obtain ⟨k, hk, rfl, rfl, hE⟩ := hrel
    by_cases hlt : k < n
    · obtain ⟨r, hlk⟩ : ∃ r, L[k]? = some r := ⟨_, List.getElem?_eq_getElem (by rw [← HN.out]; exact hlt)⟩
      obtain ⟨b, o, rfl, hcell⟩ := hL (fun e => by rw [e] at hlk; simp at hlk)
      obtain ⟨v, c0, A', c', rfl, hlc, hlb, hP⟩ := hcell k r hlk
      have c1 := hE.cell c0
      have hsum := lenS_take_succ hlk
      have hle := lenS_take_le L (k + 1)
      have hle' := HSZ.out
      obtain ⟨t, ht⟩ : ∃ t, t = lenS (L.take k) := ⟨_, rfl⟩
      rw [← ht] at hsum ⊢
      obtain ⟨m, hm⟩ : ∃ m, m = r.length := ⟨_, rfl⟩
      rw [← hm] at c1 hsum
      have htm : t + m ≤ 1000000 := by omega
      have HS := Lib.hid hsum
      clear hlk hcell c0 hP hm hlc hlb hsum hle hle' ht
      go_wp2
      go_roundw
      case rel => exact ⟨k + 1, by omega, by go_num, by rw [HS.out]; go_num, hE⟩
      case measure => simp [intOf]; omega
    · have hfin : L.take k = L := List.take_of_length_le (by rw [← HN.out]; omega)
      rw [hfin]
      have hle' := HSZ.out
      clear hfin
      obtain ⟨t, ht⟩ : ∃ t, t = lenS L := ⟨_, rfl⟩
      rw [← ht] at hle' ⊢
      have HT := Lib.hid ht
      clear ht
      go_wp2_with fail
      refine (Grow_any t _ (by omega)).mono ?_
      rintro e w1 ⟨v0, rfl, hE1, hown⟩
      have hE2 := hE.trans hE1
      have hsz1 := hE1.size
      have hbase := hE.size
      obtain ⟨B, hB⟩ : ∃ B, B = wr.heap.size := ⟨_, rfl⟩
      rw [← hB] at hown hsz1 hbase
      clear hE hE1 hB
      go_wp2_with fail
      go_loopw [6, 8, 27] (fun s _ i wr => ∃ k : Nat, k ≤ n ∧ i = .int .i64 k ∧ Ext w wr ∧ B ≤ wr.heap.size ∧ Own wr B s (L.take k).flatten) (fun _ _ i _ => n - (intOf i).toNat)
      case atStart => exact ⟨0, Nat.zero_le _, rfl, hE2, hsz1, hown⟩
      case round =>
        clear hown hE2 hsz1
        obtain ⟨j, hj, rfl, hE, hsz, hown⟩ := hrel
        by_cases hlt' : j < n
        · obtain ⟨r, hlk⟩ : ∃ r, L[j]? = some r := ⟨_, List.getElem?_eq_getElem (by rw [← HN.out]; exact hlt')⟩
          obtain ⟨b, o, rfl, hcell⟩ := hL (fun e => by rw [e] at hlk; simp at hlk)
          obtain ⟨v, c0, hP⟩ := hcell j r hlk
          have c1 := hE.cell c0
          have hP1 := hP.ext hE
          have hsum := lenS_take_succ hlk
          have hle := lenS_take_le L (j + 1)
          have hb2 : (L.take j).flatten.length + r.length ≤ 1000000000 := by have := HT.out; rw [flatten_length, ← hsum]; omega
          have hfl := flatten_take_succ hlk
          have HF := Lib.hid hfl
          clear hlk hcell c0 hP hsum hle hfl
          go_wp2_with (at_builtin; refine wpList_app rfl _ _ rfl B _ _ _ _ rfl rfl hown hP1 hb2 hsz ?_; intro v' w' hown' hg)
          have hE3 := Ext.grow hE hown hbase hg
          have hsz3 : B ≤ w'.heap.size := Nat.le_trans hsz hg.size
          go_roundw
          case rel => exact ⟨j + 1, by omega, by go_num, hE3, hsz3, by rw [HF.out]; exact hown'⟩
          case measure => simp [intOf]; omega
        · have hfin : L.take j = L := List.take_of_length_le (by rw [← HN.out]; omega)
          rw [hfin] at hown
          have hPf := hown.pts (by rw [flatten_length, ← HT.out]; omega)
          clear hfin hown
          go_wp2
          go_ret
          exact ⟨_, rfl, hE, hPf⟩
end Go.Proofs.YtodefmfgoehkhaaGreat

/- polygon.Bounds and the reference's. -/
set_option linter.unusedVariables false
set_option linter.unusedSimpArgs false
namespace Go.Proofs.YtodefmfgoehkhaaGreat
open Go.RowKit Go.Par

def minP (a p : P2) : P2 := (if p.1 < a.1 then p.1 else a.1, if p.2 < a.2 then p.2 else a.2)
def maxP (a p : P2) : P2 := (if a.1 < p.1 then p.1 else a.1, if a.2 < p.2 then p.2 else a.2)
/-- the least and the greatest coordinates, and whether there is a point -/
def boundsF : List P2 → P2 × P2 × Bool
  | [] => ((0, 0), (0, 0), false)
  | p :: l => ((p :: l).foldl minP p, (p :: l).foldl maxP p, true)
def boundsS (L : List (List P2)) : P2 × P2 × Bool := if validL L then boundsF L.flatten else ((0, 0), (0, 0), false)
def bndV (t : P2 × P2 × Bool) : Value := .tuple #[.agg #[.int .i64 t.1.1, .int .i64 t.1.2], .agg #[.int .i64 t.2.1.1, .int .i64 t.2.1.2], .bool t.2.2]
theorem fold_take {l : List P2} {k : Nat} {p q : P2} {f : P2 → P2 → P2} (h : l[k]? = some p) : (l.take (k + 1)).foldl f q = f ((l.take k).foldl f q) p := by
  rw [List.take_add_one, h]
  simp [List.foldl_append]

theorem _root_.Go.Par.Box.set2 {w : World} {b : Nat} {t : TypeId} {a0 a1 : Value} (h : Box w b t #[a0, a1]) (u0 u1 : Value) : Box ((w.setCell ⟨b, 0, none⟩ u0).setCell ⟨b, 1, none⟩ u1) b t #[u0, u1] := by
  simpa using (h.set 0 u0).set 1 u1
theorem _root_.Go.Par.Box.far2 {w : World} {b c : Nat} {t : TypeId} {cs : Array Value} (h : Box w b t cs) (hc : b ≠ c) (i j : Nat) (u0 u1 : Value) : Box ((w.setCell ⟨c, i, none⟩ u0).setCell ⟨c, j, none⟩ u1) b t cs :=
  (h.far hc u0).far hc u1
theorem _root_.Go.Par.Ext.set2 {w w1 : World} (h : Ext w w1) {b : Nat} (hb : w.heap.size ≤ b) {i j : Nat} (u0 u1 : Value) : Ext w ((w1.setCell ⟨b, i, none⟩ u0).setCell ⟨b, j, none⟩ u1) :=
  (h.setNew hb i u0).setNew hb j u1

set_option maxRecDepth 100000 in
set_option maxHeartbeats 3200000 in
theorem Bounds_any (L : List (List P2)) (A : Option Addr) (c : Nat) (w : World) (hc : L.length ≤ 17592186044416) (hL : RingsAt w A L) (hS : lenS L ≤ 1000000) :
    Calls Tryz.prog 17 #[.slice A L.length c] w fun e w' => e = .returned (bndV (boundsS L)) ∧ Ext w w' := by
  have HC := Lib.hid (fun W (h : Ext w W) => Concat_any L A c W hc (hL.ext h) hS)
  have HV := Lib.hid (fun W (h : Ext w W) => Valid_any L A c W hc (hL.ext h))
  have hsum := flatten_length L
  obtain ⟨n, hn⟩ : ∃ n, n = L.length := ⟨_, rfl⟩
  rw [← hn] at HC HV hc ⊢
  clear hn
  obtain ⟨l, hl⟩ : ∃ l, l = L.flatten := ⟨_, rfl⟩
  rw [← hl] at HC hsum
  have HL := Lib.hid hl
  clear hl hL
  obtain ⟨m, hm⟩ : ∃ m, m = l.length := ⟨_, rfl⟩
  have hm6 : m ≤ 1000000 := by omega
  have HM := Lib.hid hm
  clear hsum hm hS
  go_enter Tryz.func17, Tryz.ntmps17
  go_wp2_with fail
  refine (HC.out _ ((Ext.alloc _ _).trans (Ext.alloc _ _))).mono ?_
  rintro e w1 ⟨v, rfl, hE1, A', c', rfl, hlc, hlb, hP⟩
  have b2 := ((Box.new w _ _).alloc _).ext hE1
  have b3 := Box.at1.ext hE1
  have hE := ((Ext.alloc w _).trans (Ext.alloc _ _)).trans hE1
  rw [← HM.out] at hlc hlb
  rw [← HM.out]
  clear hE1
  by_cases h0 : m = 0
  · have e0 : boundsS L = ((0, 0), (0, 0), false) := by
      unfold boundsS
      rw [← HL.out, show l = [] from List.eq_nil_of_length_eq_zero (by rw [← HM.out]; exact h0)]
      split <;> rfl
    have E := Lib.hid e0
    subst h0
    have c2 := b2.cell; have c3 := b3.cell; have f2 := b2.frozen; have f3 := b3.frozen
    clear e0 hP
    go_wp2
    exact bodyPost_ret (v := bndV ((0, 0), (0, 0), false)) (by simp [results, Tryz.results17, go_sem, bndV, c2, c3, f2, f3]) rfl ⟨by rw [E.out], (hE.set2 (Nat.le_refl _) _ _).set2 (Nat.le_succ _) _ _⟩
  · have hm0 : 0 < m := by omega
    have d0 : decide ((m : Int) = 0) = false := decide_eq_false (by omega)
    go_wp2_with fail
    refine (HV.out _ hE).mono ?_
    rintro e w2 ⟨rfl, hE2⟩
    have B2 := b2.ext hE2
    have B3 := b3.ext hE2
    have hE' := hE.trans hE2
    have hP' := hP.ext hE2
    clear b2 b3 hE hE2 hP
    cases hv : validL L
    · have e0 : boundsS L = ((0, 0), (0, 0), false) := by unfold boundsS; rw [hv]; rfl
      have E := Lib.hid e0
      have c2 := B2.cell; have c3 := B3.cell; have f2 := B2.frozen; have f3 := B3.frozen
      clear e0
      go_wp2
      exact bodyPost_ret (v := bndV ((0, 0), (0, 0), false)) (by simp [results, Tryz.results17, go_sem, bndV, c2, c3, f2, f3]) rfl ⟨by rw [E.out], (hE'.set2 (Nat.le_refl _) _ _).set2 (Nat.le_succ _) _ _⟩
    · obtain ⟨⟨x, y⟩, hlk0⟩ : ∃ q, l[0]? = some q := ⟨_, List.getElem?_eq_getElem (by rw [← HM.out]; omega)⟩
      have e0 : boundsS L = (l.foldl minP (x, y), l.foldl maxP (x, y), true) := by
        unfold boundsS
        rw [hv, ← HL.out]
        cases l with
        | nil => simp at hlk0
        | cons p t => simp at hlk0; subst hlk0; rfl
      have E := Lib.hid e0
      have hs2 := B3.lt
      clear e0
      obtain ⟨b, o, rfl, hcell⟩ := hP' (fun e => by rw [e] at hlk0; simp at hlk0)
      have c0 := (hcell 0 _ hlk0).1
      have c1 := (hcell 0 _ hlk0).2
      rw [Nat.zero_mul, Nat.add_zero] at c0 c1
      have HCELL := Lib.hid hcell
      clear hcell
      have n0 := World.new_ne w2 _ c0
      have n1 := World.new_ne w2 _ c1
      go_wp2_with fail
      go_region_held3 (fun w' => w'.cell? ⟨b, o, none⟩ = some (.int .i64 x) ∧ w'.cell? ⟨b, o + 1, none⟩ = some (.int .i64 y)) (go_keep) (fail)
      obtain ⟨b6, b7, e6, e7, eA⟩ : ∃ b6 b7, b6 = w2.heap.size ∧ b7 = w2.heap.size + 1 ∧ True := ⟨_, _, rfl, rfl, trivial⟩
      rotate_left
      obtain ⟨b7, b6, e7, e6, eA⟩ : ∃ b7 b6, b7 = w2.heap.size ∧ b6 = w2.heap.size + 1 ∧ True := ⟨_, _, rfl, rfl, trivial⟩
      rotate_left
      all_goals
        clear eA
        generalize hW : World.drew _ = W
        have hE2W : Ext w2 W := by rw [← hW]; exact ((Ext.alloc _ _).trans (Ext.alloc _ _)).trans (Ext.drew _)
        have hA : Box W w2.heap.size 49 #[.int .i64 x, .int .i64 y] := by rw [← hW]; exact ((Box.new _ _ _).alloc _).drew
        have hB : Box W (w2.heap.size + 1) 49 #[.int .i64 x, .int .i64 y] := by rw [← hW]; exact Box.at1.drew
        have B6 : Box W b6 49 #[.int .i64 x, .int .i64 y] := by rw [e6]; first | exact hA | exact hB
        have B7 : Box W b7 49 #[.int .i64 x, .int .i64 y] := by rw [e7]; first | exact hA | exact hB
        have h6 : w2.heap.size ≤ b6 := by omega
        have h7 : w2.heap.size ≤ b7 := by omega
        have hne : b6 ≠ b7 := by omega
        have hne' : b7 ≠ b6 := by omega
        first
          | rw [← e7, ← e6]
          | rw [← e6, ← e7]
        have B2W := B2.ext hE2W
        have B3W := B3.ext hE2W
        have hEW := hE'.trans hE2W
        clear hW hA hB e6 e7 c0 c1 n0 n1
        go_wp2_with fail
        go_loopw [9, 30] (fun _ i wr => ∃ k : Nat, k ≤ m ∧ i = .int .i64 k ∧ Box wr w.heap.size 49 #[.int .i64 0, .int .i64 0] ∧ Box wr (w.heap.size + 1) 49 #[.int .i64 0, .int .i64 0] ∧ Box wr b6 49 #[.int .i64 ((l.take k).foldl minP (x, y)).1, .int .i64 ((l.take k).foldl minP (x, y)).2] ∧ Box wr b7 49 #[.int .i64 ((l.take k).foldl maxP (x, y)).1, .int .i64 ((l.take k).foldl maxP (x, y)).2] ∧ Ext w wr ∧ Ext w2 wr) (fun _ i _ => m - (intOf i).toNat)
        case atStart => exact ⟨0, Nat.zero_le _, rfl, B2W, B3W, B6, B7, hEW, hE2W⟩
        case round =>
          clear B6 B7 B2W B3W hEW hE2W
          obtain ⟨k, hk, rfl, B2W, B3W, B6, B7, hEr, hE2r⟩ := hrel
          by_cases hlt : k < m
          · obtain ⟨⟨px, py⟩, hlk⟩ : ∃ q, l[k]? = some q := ⟨_, List.getElem?_eq_getElem (by rw [← HM.out]; exact hlt)⟩
            have hf1 := fold_take (f := minP) (q := (x, y)) hlk
            have hf2 := fold_take (f := maxP) (q := (x, y)) hlk
            have c0 := hE2r.cell (HCELL.out k _ hlk).1
            have c1 := hE2r.cell (HCELL.out k _ hlk).2
            generalize (l.take k).foldl minP (x, y) = lo at *
            generalize (l.take k).foldl maxP (x, y) = hi at *
            have HF1 := Lib.hid hf1
            have HF2 := Lib.hid hf2
            have hn6 : ¬ b6 = wr.heap.size := by have := B6.lt; omega
            have hn7 : ¬ b7 = wr.heap.size := by have := B7.lt; omega
            have k6 := B6.cell; have k7 := B7.cell; have f6 := B6.frozen; have f7 := B7.frozen
            have s2 := B3W.lt
            clear hf1 hf2 hlk
            go_wp2
            go_roundw
            case rel =>
              refine ⟨k + 1, by omega, by go_num, ?_, ?_, ?_, ?_, ?_, ?_⟩
              · exact ((B2W.alloc _).far2 (by omega) _ _ _ _).far2 (by omega) _ _ _ _
              · exact ((B3W.alloc _).far2 (by omega) _ _ _ _).far2 (by omega) _ _ _ _
              · rw [HF1.out]
                exact ((B6.alloc _).set2 _ _).far2 hne _ _ _ _
              · rw [HF2.out]
                exact ((B7.alloc _).far2 hne' _ _ _ _).set2 _ _
              · exact ((hEr.trans (Ext.alloc _ _)).set2 (by have := hE'.size; omega) _ _).set2 (by have := hE'.size; omega) _ _
              · exact ((hE2r.trans (Ext.alloc _ _)).set2 h6 _ _).set2 h7 _ _
            case measure => simp [intOf]; omega
          · have hfin : l.take k = l := List.take_of_length_le (by rw [← HM.out]; omega)
            rw [hfin] at B6 B7
            clear hfin
            have ho := E.out
            generalize l.foldl minP (x, y) = lo at *
            generalize l.foldl maxP (x, y) = hi at *
            have HO := Lib.hid ho
            clear ho
            have k6 := B6.cell; have k7 := B7.cell
            have k2 := B2W.cell; have k3 := B3W.cell; have f2 := B2W.frozen; have f3 := B3W.frozen
            have s2 := B3W.lt
            have q6 : ¬ w.heap.size = b6 := by have := hE'.size; omega
            have q7 : ¬ w.heap.size = b7 := by have := hE'.size; omega
            have r6 : ¬ w.heap.size + 1 = b6 := by have := hE'.size; omega
            have r7 : ¬ w.heap.size + 1 = b7 := by have := hE'.size; omega
            go_wp2_with fail
            go_region_held3 (fun w' => w'.cell? ⟨b6, 0, none⟩ = some (.int .i64 lo.1) ∧ w'.cell? ⟨b6, 1, none⟩ = some (.int .i64 lo.2) ∧ w'.cell? ⟨b7, 0, none⟩ = some (.int .i64 hi.1) ∧ w'.cell? ⟨b7, 1, none⟩ = some (.int .i64 hi.2)) (go_keep) (fail)
            go_wp2
            exact bodyPost_ret (v := bndV (lo, hi, true)) (by simp [results, Tryz.results17, go_sem, bndV, k2, k3, f2, f3]) rfl ⟨by rw [HO.out], ((hEr.set2 (Nat.le_refl _) _ _).set2 (Nat.le_succ _) _ _).trans (Ext.drew _)⟩
end Go.Proofs.YtodefmfgoehkhaaGreat

/- The reference's Bounds. -/
set_option linter.unusedVariables false
set_option linter.unusedSimpArgs false
namespace Go.Proofs.YtodefmfgoehkhaaGreat
open Go.RowKit Go.Par

def stepB (s : P2 × P2 × Bool) (p : P2) : P2 × P2 × Bool := (minP (if s.2.2 then s.1 else p) p, maxP (if s.2.2 then s.2.1 else p) p, true)
theorem fold_step (l : List P2) (a b : P2) : l.foldl stepB (a, b, true) = (l.foldl minP a, l.foldl maxP b, true) := by
  induction l generalizing a b with
  | nil => rfl
  | cons p l ih => exact ih _ _
theorem boundsF_fold (l : List P2) : boundsF l = l.foldl stepB ((0, 0), (0, 0), false) := by
  cases l with
  | nil => rfl
  | cons p l => exact (fold_step l (minP p p) (maxP p p)).symm
theorem boundsF_snoc (l : List P2) (p : P2) : boundsF (l ++ [p]) = stepB (boundsF l) p := by
  simp [boundsF_fold, List.foldl_append]
theorem take_snoc {l : List P2} {k : Nat} {p : P2} (h : l[k]? = some p) : l.take (k + 1) = l.take k ++ [p] := by
  rw [List.take_add_one, h]; rfl

end Go.Proofs.YtodefmfgoehkhaaGreat
