/- intersect: cross, ends, shared. -/
import Derived.Test.YtodefmfgoehkhaaGreatZN
import Derived.Deep.RegionHeld3
set_option linter.unusedVariables false
set_option linter.unusedSimpArgs false
namespace Go.Proofs.YtodefmfgoehkhaaGreat
open Go.RowKit Go.Par Go.TN
open Go.TA (E2 ratI alongR yAtR xAt crosses crossI subI segN segT segS)

theorem mul_bd4 {a b : Int} (h1 : -4194304 ≤ a) (h2 : a ≤ 4194304) (h3 : -4194304 ≤ b) (h4 : b ≤ 4194304) : -17592186044416 ≤ a * b ∧ a * b ≤ 17592186044416 := by
  have h5 : (a * b).natAbs ≤ 4194304 * 4194304 := by
    rw [Int.natAbs_mul]
    exact Nat.mul_le_mul (by omega) (by omega)
  omega
set_option maxHeartbeats 400000 in
theorem icross_any (p1 p2 q1 q2 : Int) (w : World) (h : -4194304 ≤ p1 ∧ p1 ≤ 4194304 ∧ -4194304 ≤ p2 ∧ p2 ≤ 4194304 ∧ -4194304 ≤ q1 ∧ q1 ≤ 4194304 ∧ -4194304 ≤ q2 ∧ q2 ≤ 4194304) :
    Calls Tryz.prog 104 #[ptV (p1, p2), ptV (q1, q2)] w fun e w' => e = .returned (.int .i64 (crossI (p1, p2) (q1, q2))) ∧ Ext w w' := by
  obtain ⟨h1, h2, h3, h4, h5, h6, h7, h8⟩ := h
  have m1 := mul_bd4 h1 h2 h7 h8
  have m2 := mul_bd4 h3 h4 h5 h6
  have e1 : IntKind.i64.wrap (p1 * q2) = p1 * q2 := IntWalk.i64_in _ (by omega)
  have e2 : IntKind.i64.wrap (p2 * q1) = p2 * q1 := IntWalk.i64_in _ (by omega)
  have e3 : IntKind.i64.wrap (p1 * q2 - p2 * q1) = p1 * q2 - p2 * q1 := IntWalk.i64_in _ (by omega)
  clear m1 m2
  have hE := (Ext.alloc w (.cells #[.int .i64 p1, .int .i64 p2] 49)).trans (Ext.alloc _ (.cells #[.int .i64 q1, .int .i64 q2] 49))
  go_enter Tryz.func104, Tryz.ntmps104
  go_wp2
  go_ret
  exact ⟨rfl, hE⟩
/-- a block of two cells written anew -/
theorem pt_put {w Z : World} {g : Nat} {t : TypeId} {a0 a1 : Value} (x : Box Z g t #[a0, a1]) (hE : Ext w Z) (hg : w.heap.size ≤ g) (u0 u1 : Value) :
    ∃ Y, (Z.setCell ⟨g, 0, none⟩ u0).setCell ⟨g, 1, none⟩ u1 = Y ∧ Ext w Y ∧ Box Y g t #[u0, u1] ∧ ∀ k t cs, k ≠ g → Box Z k t cs → Box Y k t cs :=
  ⟨_, rfl, hE.set2 hg u0 u1, x.set2 u0 u1, fun k t cs hne h => h.far2 hne 0 1 u0 u1⟩
theorem InC_zero : InC (0, 0) := ⟨by decide, by decide, by decide, by decide⟩
def endsS (a b : P2) : P2 × P2 := if lessS b a then (b, a) else (a, b)
theorem endsS_in {a b : P2} (ha : InC a) (hb : InC b) : InC (endsS a b).1 ∧ InC (endsS a b).2 := by
  unfold endsS
  split
  · exact ⟨hb, ha⟩
  · exact ⟨ha, hb⟩
set_option maxHeartbeats 800000 in
theorem ends_any (a1 a2 b1 b2 : Int) (w : World) :
    Calls Tryz.prog 116 #[ptV (a1, a2), ptV (b1, b2)] w fun e w' => e = .returned (.tuple #[ptV (endsS (a1, a2) (b1, b2)).1, ptV (endsS (a1, a2) (b1, b2)).2]) ∧ Ext w w' := by
  obtain ⟨O1, hO1⟩ : ∃ O, O = Obj.cells #[.int .i64 a1, .int .i64 a2] 49 := ⟨_, rfl⟩
  obtain ⟨O2, hO2⟩ : ∃ O, O = Obj.cells #[.int .i64 b1, .int .i64 b2] 49 := ⟨_, rfl⟩
  obtain ⟨O3, hO3⟩ : ∃ O, O = Obj.cells #[.int .i64 0, .int .i64 0] 49 := ⟨_, rfl⟩
  have hE := (((Ext.alloc w O1).trans (Ext.alloc _ O2)).trans (Ext.alloc _ O3)).trans (Ext.alloc _ O3)
  have x0 := (((Box.new w 49 #[.int .i64 a1, .int .i64 a2]).alloc O2).alloc O3).alloc O3
  have x1 := ((Box.at1 (w := w) (o := O1) (t := 49) (cs := #[.int .i64 b1, .int .i64 b2])).alloc O3).alloc O3
  have x2 := (Box.at2 (w := w) (o := O1) (o' := O2) (t := 49) (cs := #[.int .i64 0, .int .i64 0])).alloc O3
  have x3 := Box.at3 (w := w) (o := O1) (o' := O2) (o'' := O3) (t := 49) (cs := #[.int .i64 0, .int .i64 0])
  rw [← hO1] at x0
  rw [← hO2] at x1
  rw [← hO3] at x2 x3
  rw [hO1, hO2, hO3] at hE x0 x1 x2 x3
  clear hO1 hO2 hO3
  have HL := Lib.hid (Less_any b1 b2 a1 a2)
  unfold endsS
  generalize lessS (b1, b2) (a1, a2) = t at *
  go_enter Tryz.func116, Tryz.ntmps116
  go_wp2_with fail
  refine (HL.out _).mono ?_
  rintro e w1 ⟨rfl, hE1⟩
  replace x0 := x0.ext hE1
  replace x1 := x1.ext hE1
  replace x2 := x2.ext hE1
  replace x3 := x3.ext hE1
  replace hE := hE.trans hE1
  clear HL hE1
  have c0 := x0.cell
  have c1 := x1.cell
  have c2 := x2.cell
  have c3 := x3.cell
  have f2 := x2.frozen
  have f3 := x3.frozen
  have n0 : ¬ w.heap.size = w.heap.size + 1 + 1 := by omega
  have n1 : ¬ w.heap.size + 1 + 1 = w.heap.size := by omega
  have n2 : ¬ w.heap.size = w.heap.size + 1 + 1 + 1 := by omega
  have n3 : ¬ w.heap.size + 1 + 1 + 1 = w.heap.size := by omega
  cases t
  · go_wp2_with fail
    go_region_held3 (fun w' => w'.cell? ⟨w.heap.size, 0, none⟩ = some (.int .i64 a1) ∧ w'.cell? ⟨w.heap.size, 1, none⟩ = some (.int .i64 a2) ∧ w'.cell? ⟨w.heap.size + 1, 0, none⟩ = some (.int .i64 b1) ∧ w'.cell? ⟨w.heap.size + 1, 1, none⟩ = some (.int .i64 b2)) (go_keep) (fail)
    go_wp2
    exact bodyPost_ret (v := .tuple #[ptV (a1, a2), ptV (b1, b2)]) (by simp [results, Tryz.results116, go_sem, c2, c3, f2, f3]) rfl ⟨rfl, ((hE.set2 (by omega) _ _).set2 (by omega) _ _).trans (Ext.drew _)⟩
  · go_wp2_with fail
    go_region_held3 (fun w' => w'.cell? ⟨w.heap.size, 0, none⟩ = some (.int .i64 a1) ∧ w'.cell? ⟨w.heap.size, 1, none⟩ = some (.int .i64 a2) ∧ w'.cell? ⟨w.heap.size + 1, 0, none⟩ = some (.int .i64 b1) ∧ w'.cell? ⟨w.heap.size + 1, 1, none⟩ = some (.int .i64 b2)) (go_keep) (fail)
    go_wp2
    exact bodyPost_ret (v := .tuple #[ptV (b1, b2), ptV (a1, a2)]) (by simp [results, Tryz.results116, go_sem, c2, c3, f2, f3]) rfl ⟨rfl, ((hE.set2 (by omega) _ _).set2 (by omega) _ _).trans (Ext.drew _)⟩
set_option maxHeartbeats 1600000 in
/-- shared hands back a point in bounds, and a number -/
theorem shared_any (a b c d : P2) (w : World) (ha : InC a) (hb : InC b) (hc : InC c) (hd : InC d) :
    Calls Tryz.prog 105 #[ptV a, ptV b, ptV c, ptV d] w fun e w' => ∃ (p : P2) (k : Int), e = .returned (.tuple #[ptV p, .int .i64 k]) ∧ Ext w w' ∧ InC p := by
  obtain ⟨O1, hO1⟩ : ∃ O, O = Obj.cells #[.int .i64 a.1, .int .i64 a.2] 49 := ⟨_, rfl⟩
  obtain ⟨O2, hO2⟩ : ∃ O, O = Obj.cells #[.int .i64 b.1, .int .i64 b.2] 49 := ⟨_, rfl⟩
  obtain ⟨O3, hO3⟩ : ∃ O, O = Obj.cells #[.int .i64 c.1, .int .i64 c.2] 49 := ⟨_, rfl⟩
  obtain ⟨O4, hO4⟩ : ∃ O, O = Obj.cells #[.int .i64 d.1, .int .i64 d.2] 49 := ⟨_, rfl⟩
  obtain ⟨O5, hO5⟩ : ∃ O, O = Obj.cells #[.int .i64 0, .int .i64 0] 49 := ⟨_, rfl⟩
  have hE := ((((Ext.alloc w O1).trans (Ext.alloc _ O2)).trans (Ext.alloc _ O3)).trans (Ext.alloc _ O4)).trans (Ext.alloc _ O5)
  have x0 := ((((Box.new w 49 #[.int .i64 a.1, .int .i64 a.2]).alloc O2).alloc O3).alloc O4).alloc O5
  have x1 := (((Box.at1 (w := w) (o := O1) (t := 49) (cs := #[.int .i64 b.1, .int .i64 b.2])).alloc O3).alloc O4).alloc O5
  have x2 := ((Box.at2 (w := w) (o := O1) (o' := O2) (t := 49) (cs := #[.int .i64 c.1, .int .i64 c.2])).alloc O4).alloc O5
  have x3 := (Box.at3 (w := w) (o := O1) (o' := O2) (o'' := O3) (t := 49) (cs := #[.int .i64 d.1, .int .i64 d.2])).alloc O5
  have x4 := Box.newAt (w := (((w.alloc O1).alloc O2).alloc O3).alloc O4) (t := 49) (cs := #[.int .i64 0, .int .i64 0]) (b := w.heap.size + 1 + 1 + 1 + 1) (by simp)
  rw [← hO1] at x0
  rw [← hO2] at x1
  rw [← hO3] at x2
  rw [← hO4] at x3
  rw [← hO5] at x4
  rw [hO1, hO2, hO3, hO4, hO5] at hE x0 x1 x2 x3 x4
  clear hO1 hO2 hO3 hO4 hO5
  have HL := Lib.hid (fun (p q : P2) W => Less_any p.1 p.2 q.1 q.2 W)
  have HE1 := Lib.hid (fun W => ends_any a.1 a.2 b.1 b.2 W)
  have HE2 := Lib.hid (fun W => ends_any c.1 c.2 d.1 d.2 W)
  have i1 := endsS_in ha hb
  have i2 := endsS_in hc hd
  obtain ⟨⟨p, q⟩, h1⟩ : ∃ t, endsS a b = t := ⟨_, rfl⟩
  obtain ⟨⟨r, s⟩, h2⟩ : ∃ t, endsS c d = t := ⟨_, rfl⟩
  have HE1' : Hid (∀ W, Calls Tryz.prog 116 #[ptV (a.1, a.2), ptV (b.1, b.2)] W fun e w' => e = .returned (.tuple #[ptV p, ptV q]) ∧ Ext W w') := Lib.hid (fun W => by have := HE1.out W; rwa [show ((a.1, a.2) : P2) = a from rfl, show ((b.1, b.2) : P2) = b from rfl, h1] at this)
  have HE2' : Hid (∀ W, Calls Tryz.prog 116 #[ptV (c.1, c.2), ptV (d.1, d.2)] W fun e w' => e = .returned (.tuple #[ptV r, ptV s]) ∧ Ext W w') := Lib.hid (fun W => by have := HE2.out W; rwa [show ((c.1, c.2) : P2) = c from rfl, show ((d.1, d.2) : P2) = d from rfl, h2] at this)
  rw [h1] at i1
  rw [h2] at i2
  clear HE1 HE2 h1 h2 ha hb hc hd
  have HI := Lib.hid i1
  have HJ := Lib.hid i2
  clear i1 i2
  go_enter Tryz.func105, Tryz.ntmps105
  go_wp2_with fail
  refine (HE1'.out _).mono ?_
  rintro e w1 ⟨rfl, hE1⟩
  replace x0 := x0.ext hE1
  replace x1 := x1.ext hE1
  replace x2 := x2.ext hE1
  replace x3 := x3.ext hE1
  replace x4 := x4.ext hE1
  replace hE := hE.trans hE1
  clear hE1
  have c0 := x0.cell
  have c1 := x1.cell
  have c2 := x2.cell
  have c3 := x3.cell
  have c4 := x4.cell
  have f0 := x0.frozen
  have f1 := x1.frozen
  have f2 := x2.frozen
  have f3 := x3.frozen
  have f4 := x4.frozen
  go_wp2_with fail
  obtain ⟨Y1, hY, hE, x0, hb⟩ := pt_put x0 hE (by omega) (.int .i64 p.1) (.int .i64 p.2)
  replace x1 := hb _ _ _ (show w.heap.size + 1 ≠ w.heap.size by omega) x1
  replace x2 := hb _ _ _ (show w.heap.size + 1 + 1 ≠ w.heap.size by omega) x2
  replace x3 := hb _ _ _ (show w.heap.size + 1 + 1 + 1 ≠ w.heap.size by omega) x3
  replace x4 := hb _ _ _ (show w.heap.size + 1 + 1 + 1 + 1 ≠ w.heap.size by omega) x4
  have hY1 := hY
  clear hY hb
  obtain ⟨Y2, hY, hE, x1, hb⟩ := pt_put x1 hE (by omega) (.int .i64 q.1) (.int .i64 q.2)
  replace x0 := hb _ _ _ (show w.heap.size ≠ w.heap.size + 1 by omega) x0
  replace x2 := hb _ _ _ (show w.heap.size + 1 + 1 ≠ w.heap.size + 1 by omega) x2
  replace x3 := hb _ _ _ (show w.heap.size + 1 + 1 + 1 ≠ w.heap.size + 1 by omega) x3
  replace x4 := hb _ _ _ (show w.heap.size + 1 + 1 + 1 + 1 ≠ w.heap.size + 1 by omega) x4
  rw [hY1, hY]
  clear hY1 hY hb
  clear c0 f0 c1 f1 c2 f2 c3 f3 c4 f4
  refine (HE2'.out _).mono ?_
  rintro e w2 ⟨rfl, hE1⟩
  replace x0 := x0.ext hE1
  replace x1 := x1.ext hE1
  replace x2 := x2.ext hE1
  replace x3 := x3.ext hE1
  replace x4 := x4.ext hE1
  replace hE := hE.trans hE1
  clear hE1
  have c0 := x0.cell
  have c1 := x1.cell
  have c2 := x2.cell
  have c3 := x3.cell
  have c4 := x4.cell
  have f0 := x0.frozen
  have f1 := x1.frozen
  have f2 := x2.frozen
  have f3 := x3.frozen
  have f4 := x4.frozen
  go_wp2_with fail
  obtain ⟨Y3, hY, hE, x2, hb⟩ := pt_put x2 hE (by omega) (.int .i64 r.1) (.int .i64 r.2)
  replace x0 := hb _ _ _ (show w.heap.size ≠ w.heap.size + 1 + 1 by omega) x0
  replace x1 := hb _ _ _ (show w.heap.size + 1 ≠ w.heap.size + 1 + 1 by omega) x1
  replace x3 := hb _ _ _ (show w.heap.size + 1 + 1 + 1 ≠ w.heap.size + 1 + 1 by omega) x3
  replace x4 := hb _ _ _ (show w.heap.size + 1 + 1 + 1 + 1 ≠ w.heap.size + 1 + 1 by omega) x4
  have hY1 := hY
  clear hY hb
  obtain ⟨Y4, hY, hE, x3, hb⟩ := pt_put x3 hE (by omega) (.int .i64 s.1) (.int .i64 s.2)
  replace x0 := hb _ _ _ (show w.heap.size ≠ w.heap.size + 1 + 1 + 1 by omega) x0
  replace x1 := hb _ _ _ (show w.heap.size + 1 ≠ w.heap.size + 1 + 1 + 1 by omega) x1
  replace x2 := hb _ _ _ (show w.heap.size + 1 + 1 ≠ w.heap.size + 1 + 1 + 1 by omega) x2
  replace x4 := hb _ _ _ (show w.heap.size + 1 + 1 + 1 + 1 ≠ w.heap.size + 1 + 1 + 1 by omega) x4
  rw [hY1, hY]
  clear hY1 hY hb
  clear c0 f0 c1 f1 c2 f2 c3 f3 c4 f4
  refine (HL.out p r _).mono ?_
  rintro e w3 ⟨rfl, hE1⟩
  replace x0 := x0.ext hE1
  replace x1 := x1.ext hE1
  replace x2 := x2.ext hE1
  replace x3 := x3.ext hE1
  replace x4 := x4.ext hE1
  replace hE := hE.trans hE1
  clear hE1
  have c0 := x0.cell
  have c1 := x1.cell
  have c2 := x2.cell
  have c3 := x3.cell
  have c4 := x4.cell
  have f0 := x0.frozen
  have f1 := x1.frozen
  have f2 := x2.frozen
  have f3 := x3.frozen
  have f4 := x4.frozen
  generalize lessS _ _ = tt
  cases tt
  case' false =>
    obtain ⟨t0, ht0, x0⟩ : ∃ t0 : P2, InC t0 ∧ Box w3 w.heap.size 49 #[.int .i64 t0.1, .int .i64 t0.2] := ⟨p, HI.out.1, x0⟩
    replace c0 := x0.cell
    go_wp2_with fail
    clear c0 f0 c1 f1 c2 f2 c3 f3 c4 f4
  case' true =>
    go_wp2_with fail
    obtain ⟨Y5, hY, hE, x0, hb⟩ := pt_put x0 hE (by omega) (.int .i64 r.1) (.int .i64 r.2)
    replace x1 := hb _ _ _ (show w.heap.size + 1 ≠ w.heap.size by omega) x1
    replace x2 := hb _ _ _ (show w.heap.size + 1 + 1 ≠ w.heap.size by omega) x2
    replace x3 := hb _ _ _ (show w.heap.size + 1 + 1 + 1 ≠ w.heap.size by omega) x3
    replace x4 := hb _ _ _ (show w.heap.size + 1 + 1 + 1 + 1 ≠ w.heap.size by omega) x4
    rw [hY]
    clear hY hb
    clear c0 f0 c1 f1 c2 f2 c3 f3 c4 f4
    obtain ⟨t0, ht0, x0⟩ : ∃ t0 : P2, InC t0 ∧ Box Y5 w.heap.size 49 #[.int .i64 t0.1, .int .i64 t0.2] := ⟨r, HJ.out.1, x0⟩
  all_goals
    refine (HL.out _ _ _).mono ?_
    rintro e w4 ⟨rfl, hE1⟩
    replace x0 := x0.ext hE1
    replace x1 := x1.ext hE1
    replace x2 := x2.ext hE1
    replace x3 := x3.ext hE1
    replace x4 := x4.ext hE1
    replace hE := hE.trans hE1
    clear hE1
    have c0 := x0.cell
    have c1 := x1.cell
    have c2 := x2.cell
    have c3 := x3.cell
    have c4 := x4.cell
    have f0 := x0.frozen
    have f1 := x1.frozen
    have f2 := x2.frozen
    have f3 := x3.frozen
    have f4 := x4.frozen
    generalize lessS _ _ = tt
    cases tt
    case' false =>
      obtain ⟨t1, ht1, x1⟩ : ∃ t1 : P2, InC t1 ∧ Box w4 (w.heap.size + 1) 49 #[.int .i64 t1.1, .int .i64 t1.2] := ⟨q, HI.out.2, x1⟩
      replace c1 := x1.cell
      go_wp2_with fail
      clear c0 f0 c1 f1 c2 f2 c3 f3 c4 f4
    case' true =>
      go_wp2_with fail
      obtain ⟨Y6, hY, hE, x1, hb⟩ := pt_put x1 hE (by omega) (.int .i64 s.1) (.int .i64 s.2)
      replace x0 := hb _ _ _ (show w.heap.size ≠ w.heap.size + 1 by omega) x0
      replace x2 := hb _ _ _ (show w.heap.size + 1 + 1 ≠ w.heap.size + 1 by omega) x2
      replace x3 := hb _ _ _ (show w.heap.size + 1 + 1 + 1 ≠ w.heap.size + 1 by omega) x3
      replace x4 := hb _ _ _ (show w.heap.size + 1 + 1 + 1 + 1 ≠ w.heap.size + 1 by omega) x4
      rw [hY]
      clear hY hb
      clear c0 f0 c1 f1 c2 f2 c3 f3 c4 f4
      obtain ⟨t1, ht1, x1⟩ : ∃ t1 : P2, InC t1 ∧ Box Y6 (w.heap.size + 1) 49 #[.int .i64 t1.1, .int .i64 t1.2] := ⟨s, HJ.out.2, x1⟩
    all_goals
      refine (HL.out _ _ _).mono ?_
      rintro e w5 ⟨rfl, hE1⟩
      replace x0 := x0.ext hE1
      replace x1 := x1.ext hE1
      replace x2 := x2.ext hE1
      replace x3 := x3.ext hE1
      replace x4 := x4.ext hE1
      replace hE := hE.trans hE1
      clear hE1
      have c0 := x0.cell
      have c1 := x1.cell
      have c2 := x2.cell
      have c3 := x3.cell
      have c4 := x4.cell
      have f0 := x0.frozen
      have f1 := x1.frozen
      have f2 := x2.frozen
      have f3 := x3.frozen
      have f4 := x4.frozen
      generalize lessS _ _ = tt
      cases tt
      · go_wp2
        all_goals first | (refine bodyPost_ret (v := .tuple #[ptV t0, .int .i64 1]) ?_ rfl ⟨t0, 1, rfl, hE.set2 (by omega) _ _, ht0⟩; (simp [results, Tryz.results105, go_sem, c4, f4]; done)) | (refine bodyPost_ret (v := .tuple #[ptV t1, .int .i64 1]) ?_ rfl ⟨t1, 1, rfl, hE.set2 (by omega) _ _, ht1⟩; (simp [results, Tryz.results105, go_sem, c4, f4]; done)) | (refine bodyPost_ret (v := .tuple #[ptV (0, 0), .int .i64 2]) ?_ rfl ⟨(0, 0), 2, rfl, hE.set2 (by omega) _ _, InC_zero⟩; (simp [results, Tryz.results105, go_sem, c4, f4]; done)) | (refine bodyPost_ret (v := .tuple #[ptV (0, 0), .int .i64 0]) ?_ rfl ⟨(0, 0), 0, rfl, hE.set2 (by omega) _ _, InC_zero⟩; (simp [results, Tryz.results105, go_sem, c4, f4]; done))
      · go_wp2
        all_goals first | (refine bodyPost_ret (v := .tuple #[ptV t0, .int .i64 1]) ?_ rfl ⟨t0, 1, rfl, hE.set2 (by omega) _ _, ht0⟩; (simp [results, Tryz.results105, go_sem, c4, f4]; done)) | (refine bodyPost_ret (v := .tuple #[ptV t1, .int .i64 1]) ?_ rfl ⟨t1, 1, rfl, hE.set2 (by omega) _ _, ht1⟩; (simp [results, Tryz.results105, go_sem, c4, f4]; done)) | (refine bodyPost_ret (v := .tuple #[ptV (0, 0), .int .i64 2]) ?_ rfl ⟨(0, 0), 2, rfl, hE.set2 (by omega) _ _, InC_zero⟩; (simp [results, Tryz.results105, go_sem, c4, f4]; done)) | (refine bodyPost_ret (v := .tuple #[ptV (0, 0), .int .i64 0]) ?_ rfl ⟨(0, 0), 0, rfl, hE.set2 (by omega) _ _, InC_zero⟩; (simp [results, Tryz.results105, go_sem, c4, f4]; done))
end Go.Proofs.YtodefmfgoehkhaaGreat
