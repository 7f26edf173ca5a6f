/- tile.all: all tiles of a page. -/
import Derived.Test.YtefdheoalonbaaaTileAll
set_option linter.unusedVariables false
set_option linter.unusedSimpArgs false
namespace Go.Proofs.Ytefdheoalonbaaa
open Go.RowKit Go.Par Go.Shelf
attribute [local go_sem] Oper.semAt_some

theorem _root_.Go.Par.EL.wpAppIn {P : Program} {α : Type} (E : EL P α) {F : Fence} {n : Nat} {w : World} {ops : Array Oper} {rest : List Oper} {o : Oper} {a : Act} {Q : Exit → Act → World → Prop} (hgd : o.guard = none) (s x : Operand)
    (ho : o.op = .call { callee := .builtin .append, args := #[s, x], argTypes := #[E.st, E.st] }) (base : Nat) (v : Value) (l : List α) (y : α) (b : Nat)
    (hs : a.eval s = v) (hx : a.eval x = .slice (some ⟨b, 0, none⟩) 1 1) (hB : Box w b E.t (E.enc y).toArray) (hown : E.Own w base v l) (hb : l.length + 1 ≤ 1000000000) (hbase : base ≤ w.heap.size)
    (h : ∀ g cap w', E.Own w' base (.slice (some ⟨g, 0, none⟩) (l.length + 1) cap) (l ++ [y]) → w.grownBy w' v.ownBlock → wpListIn F n P ops Q rest (a.put o.dst (.slice (some ⟨g, 0, none⟩) (l.length + 1) cap)) w') : wpListIn F n P ops Q (o :: rest) a w := by
  obtain ⟨i0, hi, hz0, hz1, hz2⟩ := info_parts E.info
  have hbytes : (l.length + 1) * E.bytes ≤ 140737488355328 := Nat.le_trans (Nat.mul_le_mul hb E.small) (by decide)
  refine wpListIn_append_own w hgd s x E.st ho base E.t i0 E.zero E.size E.bytes E.und hi hz0 hz1 hz2 E.zsize E.pos v _ _ hs hown ⟨b, 0, none⟩ 1 1 (E.enc y) hx (by rw [E.len, Nat.one_mul])
    (fun j u hu => by rw [Addr.add_lit, hB.cell, Nat.zero_add]; simpa using hu) (E.one y) (by unfold maxLen; omega) hbytes hbase ?_
  intro v' w' hown' hg _
  have ho' : E.Own w' base v' (l ++ [y]) := by
    unfold EL.Own
    rw [List.length_append, E.cells_append]
    have : E.cells [y] = E.enc y := by simp [EL.cells]
    rw [this]
    exact hown'
  obtain ⟨g, cap, rfl, _, _⟩ := ho'.head (by simp)
  rw [List.length_append] at ho' ⊢
  exact h g cap w' ho' hg
def allT (r : R4) (w h : Int) : List R4 :=
  if validT r w h then rowsOf r.1 r.2.2.1 r.2.2.2 w h (timesS (r.2.2.1 - r.1) w).toNat (startL r.2.1 h (timesS (r.2.2.2 - r.2.1) h).toNat) else []
theorem validT_true {r : R4} {w h : Int} (hv : validT r w h = true) : rectEmptyS r = false ∧ 1 ≤ w ∧ 1 ≤ h ∧ timesS (r.2.2.1 - r.1) w * timesS (r.2.2.2 - r.2.1) h ≤ 256 := by
  simpa [validT, and_assoc] using hv
theorem allT_length {r : R4} {w h : Int} (hv : validT r w h = true) : (allT r w h).length = (timesS (r.2.2.2 - r.2.1) h).toNat * (timesS (r.2.2.1 - r.1) w).toNat := by
  unfold allT
  rw [hv, if_pos rfl, rowsOf_length, startL_length]
theorem allT_le (r : R4) (w h : Int) : (allT r w h).length ≤ 256 := by
  cases hv : validT r w h
  · unfold allT; rw [hv]; exact Nat.zero_le _
  · rw [allT_length hv]
    obtain ⟨h1, h2, h3, h4⟩ := validT_true hv
    obtain ⟨b1, b2, b3, b4, b5, b6⟩ := empty_false h1
    obtain ⟨t1, _⟩ := times_facts (n := r.2.2.1 - r.1) (w := w) (by omega) (by omega) h2
    obtain ⟨t2, _⟩ := times_facts (n := r.2.2.2 - r.2.1) (w := h) (by omega) (by omega) h3
    generalize timesS (r.2.2.1 - r.1) w = p at *
    generalize timesS (r.2.2.2 - r.2.1) h = q at *
    have e : ((q.toNat * p.toNat : Nat) : Int) = q * p := by
      rw [Int.natCast_mul, Int.toNat_of_nonneg (by omega), Int.toNat_of_nonneg (by omega)]
    have := Int.mul_comm p q
    omega
/-- a row of the call's own abides the turn of what is no cells -/
theorem ownG_own {β : Type} {P : Program} {α : Type} (E : EL P α) (base B0 : Nat) (f : β → Value) (g : β → List α) : OwnFrom B0 (fun (s : β) X => E.Own X base (f s) (g s)) := fun s X Y row hs hg hr => by
  refine World.ownsRow.kept hs hg ?_
  rcases hs.2 with ⟨e, _⟩ | ⟨b, cap, cur, e, hb, hgg, _⟩
  · exact .inl (by rw [e]; rfl)
  · refine .inr fun e' => ?_
    rw [e] at e'
    obtain ⟨_, o, ho, hc⟩ := hr b e'.symm
    rw [hgg] at ho
    injection ho with ho
    subst ho
    cases hc
theorem ownBlock_cells {P : Program} {α : Type} {E : EL P α} {W : World} {base k : Nat} {v : Value} {l : List α} (h : E.Own W base v l) (e : some k = v.ownBlock) : base ≤ k ∧ ∃ cur, W.heap[k]? = some (.cells cur E.t (0, 0)) := by
  rcases h.2 with ⟨e', _⟩ | ⟨g, cap, cur, e', hb, hg, _⟩
  · rw [e'] at e; cases e
  · rw [e'] at e
    injection e with e
    subst e
    exact ⟨hb, cur, hg⟩
theorem keepsGrown {P : Program} {α : Type} {E : EL P α} {W w' : World} {base : Nat} {v : Value} {l : List α} (h : E.Own W base v l) (hg : W.grownBy w' v.ownBlock) : KeepsOthers W w' :=
  ⟨hg.size, fun k o hk ho => (hg.block k (Array.getElem?_eq_some_iff.1 hk).1 (fun e => by
    obtain ⟨_, cur, hc⟩ := ownBlock_cells h e
    rw [hk] at hc
    injection hc with hc
    subst hc
    cases ho)).trans hk⟩
theorem kptGrown {P : Program} {α : Type} {E : EL P α} {W w' : World} {base c₀ Bo : Nat} {ts : TypeId} {v : Value} {l : List α} (h : E.Own W base v l) (hg : W.grownBy w' v.ownBlock) (hb : c₀ ≤ base) (hW : c₀ ≤ W.heap.size) : KpT c₀ Bo E.t ts W w' :=
  ⟨hg.size, fun k hk _ => hg.block k (by omega) (fun e => by have := (ownBlock_cells h e).1; omega), fun k cs t f hc h1 h2 => hg.block k (Array.getElem?_eq_some_iff.1 hc).1 (fun e => by
    obtain ⟨_, cur, hc'⟩ := ownBlock_cells h e
    rw [hc] at hc'
    injection hc' with hc'
    injection hc' with _ e2
    exact h1 e2)⟩
theorem kptSet {w' : World} {c₀ Bo : Nat} {tr ts : TypeId} {v : Value} (h : Boxed w' Bo ts v) (u : Value) : KpT c₀ Bo tr ts w' (w'.setCell ⟨Bo, 0, none⟩ u) :=
  ⟨by rw [size_set]; exact Nat.le_refl _, fun k _ hne => Below.heap_setCell w' ⟨Bo, 0, none⟩ u k hne, fun k cs t f hc h1 h2 => Below.heap_setCell w' ⟨Bo, 0, none⟩ u k (fun e => by
    subst e
    rw [show w'.heap[k]? = _ from h] at hc
    injection hc with hc
    injection hc with _ e2
    exact h2 e2.symm)⟩
set_option maxRecDepth 100000 in
set_option maxHeartbeats 2000000 in
theorem tileAll_any (x0 y0 x1 y1 wd ht : Int) (w : World) (hw2 : wd ≤ 9223372036854775807) (hh2 : ht ≤ 9223372036854775807) :
    Calls Try.prog 43 #[.agg #[.int .i64 x0, .int .i64 y0, .int .i64 x1, .int .i64 y1], .int .i64 wd, .int .i64 ht] w fun e w' => ∃ v, e = .returned v ∧ Ext w w' ∧ rectE.Own w' w.heap.size v (allT (x0, y0, x1, y1) wd ht) := by
  have HA := Lib.hid (show allT (x0, y0, x1, y1) wd ht = if validT (x0, y0, x1, y1) wd ht then rowsOf x0 x1 y1 wd ht (timesS (x1 - x0) wd).toNat (startL y0 ht (timesS (y1 - y0) ht).toNat) else [] from rfl)
  refine (callsIn_wide (n := 20)).1 ?_
  refine callsIn_of_wp_marks Try.func43 rfl trivial ?_ rfl
  simp only [Try.ntmps43, List.size_toArray, List.length_cons, List.length_nil, Nat.reduceAdd, Nat.reduceSub, Array.replicate_succ, Array.replicate_zero, List.push_toArray, List.append_toArray, List.nil_append, List.cons_append]
  gi_wp2_with fail
  refine ⟨trivial, ?_⟩
  refine (callsIn_wide.2 (pTileValid_any _ _ _ _ _ _ _)).mono ?_
  rintro e w1 ⟨rfl, hE1⟩
  have bR := ((Box.new _ _ _).alloc _).ext hE1
  have bO := Box.at1.ext hE1
  have hE := ((Ext.alloc _ _).trans (Ext.alloc _ _)).trans hE1
  have hsz1 : w.heap.size + 2 ≤ w1.heap.size := by
    have := hE1.size
    simp at this
    omega
  have cR := bR.cell
  have cO := bO.cell
  clear hE1
  cases hv : validT (x0, y0, x1, y1) wd ht
  · have HR := Lib.hid (show allT (x0, y0, x1, y1) wd ht = [] from by rw [HA.out, hv]; rfl)
    clear hv HA cR
    gi_wp2
    exact ⟨_, results_tmp rfl _ _ _, _, rfl, hE, by rw [HR.out]; exact EL.Own.nil _ _⟩
  · obtain ⟨hem, hw1, hh1, hprod⟩ := validT_true hv
    have HR := Lib.hid (show allT (x0, y0, x1, y1) wd ht = rowsOf x0 x1 y1 wd ht (timesS (x1 - x0) wd).toNat (startL y0 ht (timesS (y1 - y0) ht).toNat) from by rw [HA.out, hv]; rfl)
    have hlen := allT_le (x0, y0, x1, y1) wd ht
    have hll := allT_length hv
    obtain ⟨b1, b2, b3, b4, b5, b6⟩ := empty_false hem
    simp only at b1 b2 b3 b4 b5 b6 hll
    have hcan : rectCanonS (x0, y0, x1, y1) = (x0, y0, x1, y1) := by unfold rectCanonS; rw [hem]; rfl
    obtain ⟨hxl, hxe⟩ := times_list (n := x1 - x0) (w := wd) (lo := x0) (by omega) (by omega) hw1
    obtain ⟨hyl, hye⟩ := times_list (n := y1 - y0) (w := ht) (lo := y0) (by omega) (by omega) hh1
    rw [show x0 + (x1 - x0) = x1 by omega] at hxl hxe
    rw [show y0 + (y1 - y0) = y1 by omega] at hyl hye
    have HT := Lib.hid (pTiles_any x0 y0 x1 y1 wd ht)
    rw [hcan] at HT
    clear hv HA hem hprod hcan
    gi_wp2_with fail
    refine ⟨trivial, ?_⟩
    refine (callsIn_wide.2 (HT.out _)).mono ?_
    rintro e w2 ⟨rfl, hE2, tR, tW, tH⟩
    have bO2 := bO.ext hE2
    have hE' := hE.trans hE2
    have hsz2 := (tH.lt)
    clear HT cR cO bR bO hE hE2
    gi_wp2_with fail
    have hI : OwnFrom w2.heap.size (fun (pre : List R4) X => ((∃ v, Boxed X (w.heap.size + 1) 64 v ∧ rectE.Own X w2.heap.size v pre) ∧ Below w.heap.size w X) ∧ w2.heap.size ≤ X.heap.size) := by
      refine OwnFrom.and (OwnFrom.and ?_ (ownFrom_below (Nat.le_refl _) (by omega))) (fun s A X row hs hg hr => Nat.le_trans hs hg.size)
      intro s A X row hs hg hr
      obtain ⟨v, h1, h2⟩ := hs
      exact ⟨v, boxed_own _ _ (fun (_ : Unit) => v) () A X row h1 hg (fun r e => (hr r e).2), ownG_own rectE _ w2.heap.size (fun (_ : Unit) => v) (fun _ => s) () A X row h2 hg hr⟩
    refine wpIn_rangeAll (gf := 80) (lb := #[.pointer (some ⟨w1.heap.size + 1, 0, none⟩), .pointer (some ⟨w1.heap.size + 1 + 1, 0, none⟩), .pointer (some ⟨w1.heap.size, 0, none⟩)]) rfl (enters_of Try.func80 (by kernel_rfl) rfl)
      (encs := fun r : R4 => #[rectV r]) (fun _ => rfl) (KpT w2.heap.size (w.heap.size + 1) 23 64) (fun h k => h.trans k) (fun X l o o' hl ho hc => KpT.putObj o' hl ho hc)
      (rowsOf x0 x1 y1 wd ht (timesS (x1 - x0) wd).toNat (startL y0 ht (timesS (y1 - y0) ht).toNat))
      (fun l J X hX hJ hY h0 => tiles1_in (20 - 1) (by omega) l (w1.heap.size + 1) (w1.heap.size + 1 + 1) w1.heap.size w2.heap.size (w.heap.size + 1) x0 y0 x1 y1 wd ht _ _ (by omega) (by omega) (by omega) (by omega) hw1 hh1 hw2 hh2 hxl hxe hyl hye X hX.size (tW.ext hX) (tH.ext hX) (tR.ext hX) (by omega) (by omega) J hJ
        (fun m pre x W1 hj hl => hY m pre x W1 hj (by rw [rowsOf_length, startL_length]; exact hl)) h0)
      (fun pre X => ((∃ v, Boxed X (w.heap.size + 1) 64 v ∧ rectE.Own X w2.heap.size v pre) ∧ Below w.heap.size w X) ∧ w2.heap.size ≤ X.heap.size) hI
      ⟨⟨⟨_, bO2, EL.Own.nil _ _⟩, hE'⟩, Nat.le_refl _⟩
      (fun r a' X => ∃ Bx, Box X Bx 23 (rectE.enc r).toArray ∧ a' = { tmps := #[.agg #[.int .i64 x0, .int .i64 y0, .int .i64 x1, .int .i64 y1], .int .i64 wd, .int .i64 ht, .pointer (some ⟨w.heap.size, 0, none⟩), undef, undef, .slice none 0 0, .pointer (some ⟨w.heap.size + 1, 0, none⟩), .pointer (some ⟨Bx, 0, none⟩), .agg #[.int .i64 x0, .int .i64 y0, .int .i64 x1, .int .i64 y1], .int .i64 wd, .int .i64 ht, .bool true, .agg #[.int .i64 x0, .int .i64 y0, .int .i64 x1, .int .i64 y1], .int .i64 wd, .int .i64 ht, .func (.func 80) #[] #[.pointer (some ⟨w1.heap.size + 1, 0, none⟩), .pointer (some ⟨w1.heap.size + 1 + 1, 0, none⟩), .pointer (some ⟨w1.heap.size, 0, none⟩)], rectV r, undef, undef, undef, undef, undef], defers := [] })
      (fun r a' _ A X row hs hg hr => by
        obtain ⟨Bx, h1, h2⟩ := hs
        refine ⟨Bx, (hg.block Bx h1.lt (fun e => ?_)).trans h1, h2⟩
        obtain ⟨_, o, ho, hc⟩ := hr Bx e.symm
        rw [show A.heap[Bx]? = _ from h1] at ho
        injection ho with ho
        subst ho
        cases hc)
      ?assign ?body ?done
    case assign =>
      rintro m l pre x X K ⟨⟨⟨v, h1, h2⟩, h3⟩, h4⟩ hK
      obtain ⟨a1, a2, a3, a4⟩ := x
      dsimp only [rectV]
      gi_wp2
      exact hK _ _ ((KeepsOthers.alloc _ _).from _) (KpT.alloc h4 _) ⟨⟨⟨v, h1.alloc _, h2.ext (Ext.alloc _ _)⟩, h3.alloc h3.size _⟩, by simp; omega⟩ ⟨X.heap.size, Box.new X _ _, rfl⟩
    case body =>
      rintro m l pre r a' X ⟨⟨⟨v, bO, hown⟩, hB⟩, hs⟩ ⟨Bx, bX, rfl⟩ hlt
      obtain ⟨a1, a2, a3, a4⟩ := r
      dsimp only [rectE] at bX
      have cX := bX.cell
      have cO := bO.cell
      have hl256 : pre.length + 1 ≤ 1000000000 := by rw [rowsOf_length, startL_length, ← hll] at hlt; omega
      have hne : some (w.heap.size + 1) ≠ v.ownBlock := by
        rcases hown.block with e | ⟨g, e, hg⟩
        · rw [e]; simp
        · rw [e]; intro e'; injection e' with e'; omega
      gi_wp2_with (gi_at_builtin; refine EL.wpAppIn rectE rfl _ _ rfl w2.heap.size v pre (a1, a2, a3, a4) X.heap.size rfl rfl (Box.new _ _ _) (hown.ext (Ext.alloc _ _)) hl256 (by simp; omega) ?_; intro g cap w' hown' hg; have hO1 := (bO.alloc (.cells #[.int .i64 a1, .int .i64 a2, .int .i64 a3, .int .i64 a4] 23)).kept hg hne; have cO1 := hO1.cell; have fO1 := hO1.frozen)
      have hg0 : rectE.Own (X.alloc (.cells #[.int .i64 a1, .int .i64 a2, .int .i64 a3, .int .i64 a4] 23)) w2.heap.size v pre := hown.ext (Ext.alloc _ _)
      have hs' : w2.heap.size ≤ (X.alloc (.cells #[.int .i64 a1, .int .i64 a2, .int .i64 a3, .int .i64 a4] 23)).heap.size := by simp; omega
      have hkk := ((KeepsOthers.alloc X (.cells #[.int .i64 a1, .int .i64 a2, .int .i64 a3, .int .i64 a4] 23)).trans (keepsGrown hg0 hg)).trans (KeepsOthers.setCell w' ⟨w.heap.size + 1, 0, none⟩ (.slice (some ⟨g, 0, none⟩) (pre.length + 1) cap))
      have hkp : KpT w2.heap.size (w.heap.size + 1) 23 64 X w' := (KpT.alloc hs (.cells #[.int .i64 a1, .int .i64 a2, .int .i64 a3, .int .i64 a4] 23)).trans (kptGrown hg0 hg (Nat.le_refl _) hs')
      have hB' : Ext w w' := growExt ((show Ext w X from hB).trans (Ext.alloc X (.cells #[.int .i64 a1, .int .i64 a2, .int .i64 a3, .int .i64 a4] 23))) hg0 (by omega) hg
      exact ⟨hkk.from _, hkp.trans (kptSet hO1 _), ⟨⟨_, hO1.set _, hown'.but ((But.refl _ _).set _ _) (by omega)⟩, hB'.setNew (by omega) _ _⟩, Nat.le_trans hs hkp.size⟩
    case done =>
      rintro D X hD ⟨⟨⟨v, bO, hown⟩, hB⟩, hs⟩ hK
      have cO := bO.cell
      have hfo := (ownG_own rectE w2.heap.size w2.heap.size (fun _ : Unit => v) (fun _ => rowsOf x0 x1 y1 wd ht (timesS (x1 - x0) wd).toNat (startL y0 ht (timesS (y1 - y0) ht).toNat))).putObj (s := ()) (.deferred none) hown hD hK rfl
      have hfb : Below w.heap.size w (X.putObj D (.deferred none)) := (ownFrom_below (β := Unit) (n₀ := w.heap.size) (B := w2.heap.size) (w₀ := w) (Nat.le_refl _) (by omega)).putObj (s := ()) (.deferred none) hB hD hK rfl
      gi_wp2
      refine ⟨by simp, .inl ⟨_, _, rfl, run_takeDeferred hK, ?_⟩⟩
      exact ⟨_, results_tmp rfl _ _ _, v, rfl, hfb, by rw [HR.out]; exact EL.Own.lower hfo (by omega)⟩
end Go.Proofs.Ytefdheoalonbaaa
