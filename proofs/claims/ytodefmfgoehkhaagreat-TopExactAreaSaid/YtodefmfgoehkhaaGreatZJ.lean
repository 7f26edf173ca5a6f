/- Texts put together: TiDiv, TiTo, TrLow, TrLow2, TrNew. -/
import Derived.Test.YtodefmfgoehkhaaGreatTiAdd
import Derived.WalkMore
/- integer: DivMod of numbers that are not below 0, ToInt of one digit. -/
set_option linter.unusedVariables false
set_option linter.unusedSimpArgs false
namespace Go.Proofs.YtodefmfgoehkhaaGreat
open Go.RowKit Go.Par Go.TN

set_option maxHeartbeats 400000 in
theorem signed_any {b : Bool} {w : World} :
    Calls Tryz.prog 83 #[.bool b] w fun e w' => ∃ g, e = .returned (.func (.func 111) #[] #[.pointer (some ⟨g, 0, none⟩)]) ∧ Ext w w' ∧ w.heap.size ≤ g ∧ Box w' g 4 #[.bool b] := by
  have hE := Ext.alloc w (.cells #[.bool b] 4)
  have x0 := Box.new w 4 #[.bool b]
  go_enter Tryz.func83, Tryz.ntmps83
  go_wp2
  go_ret
  exact ⟨_, ret_eq rfl, hE, Nat.le_refl _, x0⟩
set_option maxHeartbeats 400000 in
theorem signed1_any {b : Bool} {g k : Nat} {v : Value} {w : World} (hb : Box w g 4 #[.bool b]) (hv : NV w v k) (hk : L k ≤ 400000000) :
    Calls Tryz.prog 111 #[v, .pointer (some ⟨g, 0, none⟩)] w fun e w' => ∃ v, e = .returned v ∧ Ext w w' ∧ IV w' v (mkI b k) := by
  have hE := Ext.alloc w (.cells #[.bool false, .slice none 0 0] 27)
  have x0 := Box.new w 27 #[.bool false, .slice none 0 0]
  have c0 := (hb.ext hE).cell
  have H1 := Lib.hid (newV (b := b) (hv.ext hE) hk)
  obtain ⟨A, n, c, rfl, hs⟩ := hv
  clear hs
  go_enter Tryz.func111, Tryz.ntmps111
  go_wp2_with fail
  refine H1.out.mono ?_
  rintro e w1 ⟨v, rfl, hE1, g1⟩
  replace x0 := x0.ext hE1
  obtain ⟨b, A, n, c, rfl, hEf, gf⟩ := IV.put g1 x0 (by omega) (hE.trans hE1)
  have c4 := x0.cell
  have f4 := x0.frozen
  clear g1 H1 x0 hE1
  go_wp2
  exact bodyPost_ret (v := .agg #[.bool b, .slice A n c]) (by simp [results, Tryz.results111, go_sem, c4, f4]) rfl ⟨_, rfl, hEf, gf⟩
/-- two blocks of two cells written anew -/
theorem two_put {w Z : World} {g1 g2 : Nat} {u1 u2 b1 b2 : Bool} {D1 D2 A1 A2 : Option Addr} {m1 m2 d1 d2 n1 n2 c1 c2 : Nat} {z1 z2 : Int} (hg : g1 ≠ g2) (x1 : Box Z g1 27 #[.bool u1, .slice D1 m1 d1]) (x2 : Box Z g2 27 #[.bool u2, .slice D2 m2 d2])
    (hE : Ext w Z) (h1 : w.heap.size ≤ g1) (h2 : w.heap.size ≤ g2) (i1 : IS Z b1 A1 n1 c1 z1) (i2 : IS Z b2 A2 n2 c2 z2) :
    ∃ Z', ((((Z.setCell ⟨g1, 0, none⟩ (.bool b1)).setCell ⟨g1, 1, none⟩ (.slice A1 n1 c1)).setCell ⟨g2, 0, none⟩ (.bool b2)).setCell ⟨g2, 1, none⟩ (.slice A2 n2 c2)) = Z' ∧
      Ext w Z' ∧ Box Z' g1 27 #[.bool b1, .slice A1 n1 c1] ∧ Box Z' g2 27 #[.bool b2, .slice A2 n2 c2] ∧ IS Z' b1 A1 n1 c1 z1 ∧ IS Z' b2 A2 n2 c2 z2 ∧ ∀ g t cs, g ≠ g1 → g ≠ g2 → Box Z g t cs → Box Z' g t cs := by
  have k1 := ((But.refl g1 Z).set 0 (.bool b1)).set 1 (.slice A1 n1 c1)
  have y1 : Box _ g1 27 #[.bool b1, .slice A1 n1 c1] := (x1.set 0 (.bool b1)).set 1 (.slice A1 n1 c1)
  have y2 := k1.box x2 (Ne.symm hg)
  have j1 := i1.but (NoDig.int x1) k1
  have j2 := i2.but (NoDig.int x1) k1
  have E1 := hE.but k1 h1
  have k3 : ∀ g t cs, g ≠ g1 → Box Z g t cs → Box _ g t cs := fun g t cs hne hb => k1.box hb hne
  generalize (Z.setCell ⟨g1, 0, none⟩ (.bool b1)).setCell ⟨g1, 1, none⟩ (.slice A1 n1 c1) = Y at *
  have k2 := ((But.refl g2 Y).set 0 (.bool b2)).set 1 (.slice A2 n2 c2)
  exact ⟨_, rfl, E1.but k2 h2, k2.box y1 hg, (y2.set 0 (.bool b2)).set 1 (.slice A2 n2 c2), j1.but (NoDig.int y2) k2, j2.but (NoDig.int y2) k2, fun g t cs h1 h2 hb => k2.box (k3 g t cs h1 hb) h2⟩
set_option maxHeartbeats 400000 in
theorem divI {b1 b2 : Bool} {A1 A2 : Option Addr} {n1 n2 c1 c2 a b : Nat} {w : World} (h1 : IS w b1 A1 n1 c1 (a : Int)) (h2 : IS w b2 A2 n2 c2 (b : Int)) (hn1 : n1 ≤ 200000000) (hn2 : n2 ≤ 200000000) (hb : b ≠ 0) :
    Calls Tryz.prog 59 #[.agg #[.bool b1, .slice A1 n1 c1], .agg #[.bool b2, .slice A2 n2 c2]] w fun e w' => ∃ v r, e = .returned (.tuple #[v, r, .int .i64 0]) ∧ Ext w w' ∧ IV w' v ((a / b : Nat) : Int) ∧ ∃ z, IV w' r z := by
  have hE := (((Ext.alloc w (.cells #[.bool b1, .slice A1 n1 c1] 27)).trans (Ext.alloc _ (.cells #[.bool b2, .slice A2 n2 c2] 27))).trans (Ext.alloc _ (.cells #[.bool false, .slice none 0 0] 27))).trans (Ext.alloc _ (.cells #[.bool false, .slice none 0 0] 27))
  have x0 := (((Box.new w 27 #[.bool b1, .slice A1 n1 c1]).alloc (.cells #[.bool b2, .slice A2 n2 c2] 27)).alloc (.cells #[.bool false, .slice none 0 0] 27)).alloc (.cells #[.bool false, .slice none 0 0] 27)
  have x1 := ((Box.at1 (w := w) (o := .cells #[.bool b1, .slice A1 n1 c1] 27) (t := 27) (cs := #[.bool b2, .slice A2 n2 c2])).alloc (.cells #[.bool false, .slice none 0 0] 27)).alloc (.cells #[.bool false, .slice none 0 0] 27)
  have x2 := (Box.at2 (w := w) (o := .cells #[.bool b1, .slice A1 n1 c1] 27) (o' := .cells #[.bool b2, .slice A2 n2 c2] 27) (t := 27) (cs := #[.bool false, .slice none 0 0])).alloc (.cells #[.bool false, .slice none 0 0] 27)
  have x3 := Box.at3 (w := w) (o := .cells #[.bool b1, .slice A1 n1 c1] 27) (o' := .cells #[.bool b2, .slice A2 n2 c2] 27) (o'' := .cells #[.bool false, .slice none 0 0] 27) (t := 27) (cs := #[.bool false, .slice none 0 0])
  have l1 := h1.ns.len
  have l2 := h2.ns.len
  have l3 := L_le (show (a / b) ≤ a from Nat.div_le_self _ _)
  simp only [Int.natAbs_natCast] at l1 l2
  have e1 : b1 = false := by rw [h1.neg]; simp
  have e2 : b2 = false := by rw [h2.neg]; simp
  subst e1
  subst e2
  have q1 : mkI false a = a := rfl
  have q2 : mkI false b = b := rfl
  have HN1 := Lib.hid (fun W (he : Ext w W) => newV (b := false) (⟨_, _, _, rfl, h1.ns.ext he⟩ : NV W _ _) (by simp only [Int.natAbs_natCast]; omega))
  have HN2 := Lib.hid (fun W (he : Ext w W) => newV (b := false) (⟨_, _, _, rfl, h2.ns.ext he⟩ : NV W _ _) (by simp only [Int.natAbs_natCast]; omega))
  simp only [Int.natAbs_natCast, q1, q2] at HN1 HN2
  have la : L a ≤ 200000000 := by omega
  have lb : L b ≤ 200000000 := by omega
  clear h1 h2 q1 q2 l1 l2 hn1 hn2
  go_enter Tryz.func59, Tryz.ntmps59
  go_wp2_with fail
  apply wp_region_par' 10 (by kernel_rfl) (by kernel_rfl) rfl
  simp only [List.take_succ_cons, List.take_zero, List.drop_succ_cons, List.drop_zero]
  generalize hW : World.drew _ = W
  have hEW : Ext w W := by rw [← hW]; exact hE.trans (Ext.drew _)
  replace x0 : Box W w.heap.size 27 #[.bool false, .slice A1 n1 c1] := by rw [← hW]; exact x0.drew
  replace x1 : Box W (w.heap.size + 1) 27 #[.bool false, .slice A2 n2 c2] := by rw [← hW]; exact x1.drew
  replace x2 : Box W (w.heap.size + 1 + 1) 27 #[.bool false, .slice none 0 0] := by rw [← hW]; exact x2.drew
  replace x3 : Box W (w.heap.size + 1 + 1 + 1) 27 #[.bool false, .slice none 0 0] := by rw [← hW]; exact x3.drew
  clear hW
  have z0 := x0.lcell
  have z1' := x1.lcell
  iterate 4
    refine parW_step rfl (fun K hK => ?_)
    apply Exists.intro
    refine ⟨fun z => ?_, ?_⟩
    focus
      go_simp
      first
        | rfl
        | fail
    go_simp
    refine hK _ ?_
    clear hK K
  refine parW_rel rfl (IV.stable (a : Int)) (fun x => ?_) ?_
  · have hc := HN1.out x.val (hEW.later x)
    simp only [Giv]
    go_simp
    exact calls_rel hc
  iterate 4
    refine parW_step rfl (fun K hK => ?_)
    apply Exists.intro
    refine ⟨fun z => ?_, ?_⟩
    focus
      go_simp
      first
        | rfl
        | fail
    go_simp
    refine hK _ ?_
    clear hK K
  refine parW_rel rfl (IV.stable (b : Int)) (fun x => ?_) ?_
  · intro v1 hv1
    have hc := HN2.out x.val (hEW.later x)
    simp only [Giv]
    go_simp
    exact calls_rel hc
  refine parW_fin (fun z => ?_)
  rintro v1 ⟨b1, A5, n5, c5, rfl, i1⟩ v2 ⟨b2, A6, n6, c6, rfl, i2⟩ hp
  simp only [Act.put, List.setIfInBounds_toArray, List.set_cons_succ, List.set_cons_zero]
  obtain ⟨Z', hZ, hE', y1, y2, j1, j2, hb'⟩ := two_put (w := w) (Nat.ne_of_lt (Nat.lt_succ_self w.heap.size)) (x0.later z) (x1.later z) (hEW.later z) (Nat.le_refl _) (by omega) i1 i2
  have HZ := Lib.hid hZ
  have w0 := (x0.later z).frozen
  have w1 := (x1.later z).frozen
  have w2 := (x0.later z).cell
  have w3 := (x1.later z).cell
  have y3 := hb' _ _ _ (show w.heap.size + 1 + 1 ≠ w.heap.size by omega) (show w.heap.size + 1 + 1 ≠ w.heap.size + 1 by omega) (x2.later z)
  have y4 := hb' _ _ _ (show w.heap.size + 1 + 1 + 1 ≠ w.heap.size by omega) (show w.heap.size + 1 + 1 + 1 ≠ w.heap.size + 1 by omega) (x3.later z)
  clear hZ hb' i1 i2 hp z0 z1' x0 x1 x2 x3
  generalize z.val = Z at *
  have e3 : b1 = false := by rw [j1.neg]; simp
  have e4 : b2 = false := by rw [j2.neg]; simp
  have k1 := j1.ns.len
  have k2 := j2.ns.len
  simp only [Int.natAbs_natCast] at k1 k2
  subst e3
  subst e4
  have HD := Lib.hid (divS j1.ns j2.ns (by rw [k1]; omega) (by rw [k2]; omega) (by simpa using hb))
  have HQ := Lib.hid (fun W v (he : NV W v (a / b)) g (hg : Box W g 4 #[.bool false]) => signed1_any hg he (by omega))
  clear k1 k2
  simp only [Int.natAbs_natCast] at HD
  go_wp2_with fail
  rw [HZ.out]
  clear HZ w0 w1 w2 w3
  refine HD.out.mono ?_
  rintro e u1 ⟨q, r, rfl, hE1, g1, g2⟩
  obtain ⟨A7, n7, c7, rfl, g1⟩ := g1
  obtain ⟨A8, n8, c8, rfl, g2⟩ := g2
  replace y1 := y1.ext hE1
  replace y2 := y2.ext hE1
  replace y3 := y3.ext hE1
  replace y4 := y4.ext hE1
  replace j1 := j1.ext hE1
  replace j2 := j2.ext hE1
  replace hE' := hE'.trans hE1
  clear hE1 HD g2
  have f1 := y1.cell
  have f2 := y2.cell
  go_wp2_with fail
  refine signed_any.mono ?_
  rintro e u2 ⟨g, rfl, hE1, hg, gb⟩
  go_wp2_with fail
  refine (HQ.out u2 _ ⟨_, _, _, rfl, g1.ext hE1⟩ g gb).mono ?_
  rintro e u3 ⟨v, rfl, hE2, b7, A9, n9, c9, rfl, g3⟩
  rw [show mkI false (a / b) = ((a / b : Nat) : Int) from rfl] at g3
  have hE3 := hE1.trans hE2
  replace y1 := y1.ext hE3
  replace y2 := y2.ext hE3
  replace y3 := y3.ext hE3
  replace y4 := y4.ext hE3
  replace j1 := j1.ext hE3
  replace j2 := j2.ext hE3
  replace hE' := hE'.trans hE3
  have hgl := gb.lt
  clear f1 f2 hE1 HQ hE2 hE3 gb g1 hg
  have f1 := y1.cell
  have f2 := y2.cell
  go_wp2_with fail
  apply wp_region_par' 6 (by kernel_rfl) (by kernel_rfl) rfl
  simp only [List.take_succ_cons, List.take_zero, List.drop_succ_cons, List.drop_zero]
  generalize hW : World.drew _ = W
  have hEW : Ext u3 W := by rw [← hW]; exact (Ext.alloc _ _).trans (Ext.drew _)
  have x5 : Box W u3.heap.size 27 #[.bool b7, .slice A9 n9 c9] := by rw [← hW]; exact Box.new _ _ _
  replace y1 := y1.ext hEW
  replace y2 := y2.ext hEW
  replace y3 := y3.ext hEW
  replace y4 := y4.ext hEW
  replace j1 := j1.ext hEW
  replace j2 := j2.ext hEW
  replace g3 := g3.ext hEW
  replace hE' := hE'.trans hEW
  clear hW hEW f1 f2
  have H1 := Lib.hid (fun X (he : Ext W X) => mulI (g3.ext he) (j2.ext he) (by rw [g3.ns.len, Int.natAbs_natCast]; omega) (by rw [j2.ns.len, Int.natAbs_natCast]; omega))
  have l6 : L (((a / b : Nat) : Int) * (b : Int)).natAbs ≤ 300000000 := by
    rw [← Int.natCast_mul, Int.natAbs_natCast]
    have := L_le (Nat.div_mul_le_self a b)
    omega
  have H2 := Lib.hid (fun X v (he : Ext W X) (hv : IV X v (((a / b : Nat) : Int) * (b : Int))) => subV (⟨_, _, _, _, rfl, j1.ext he⟩ : IV X _ _) hv (by rw [Int.natAbs_natCast]; omega) l6)
  have z5 := x5.lcell
  have z1 := y1.lcell
  have z2 := y2.lcell
  iterate 4
    refine parW_step rfl (fun K hK => ?_)
    apply Exists.intro
    refine ⟨fun z => ?_, ?_⟩
    focus
      go_simp
      first
        | rfl
        | fail
    go_simp
    refine hK _ ?_
    clear hK K
  refine parW_rel rfl (IV.stable (((a / b : Nat) : Int) * (b : Int))) (fun x => ?_) ?_
  · have hc := H1.out x.val x.prop
    simp only [Giv]
    go_simp
    exact calls_rel hc
  refine parW_rel rfl (IV.stable ((a : Int) - ((a / b : Nat) : Int) * (b : Int))) (fun x => ?_) ?_
  · intro v1 hv1
    have k1 := hv1 (show Nat.testBit _ _ = true from by kernel_rfl)
    have hc := H2.out x.val v1 x.prop k1
    simp only [Giv]
    go_simp
    exact calls_rel hc
  refine parW_fin (fun z => ?_)
  rintro v1 i1 v2 ⟨b2, A6, n6, c6, rfl, i2⟩ hp
  simp only [Act.put, List.setIfInBounds_toArray, List.set_cons_succ, List.set_cons_zero]
  obtain ⟨Y, hY, hEY, m1, m2, t1, t2, -⟩ := two_put (w := w) (g1 := w.heap.size + 1 + 1) (g2 := w.heap.size + 1 + 1 + 1) (by omega) (y3.later z) (y4.later z) (hE'.trans z.prop) (by omega) (by omega) (g3.ext z.prop) i2
  have HY := Lib.hid hY
  have w0 := (y3.later z).frozen
  have w1 := (y4.later z).frozen
  have w2 := (y3.later z).cell
  have w3 := (y4.later z).cell
  clear hY i1 i2 hp z5 z1 z2 H1 H2 y1 y2 y3 y4 j1 j2 g3 x5 hE'
  generalize z.val = Z at *
  have f1 := m1.cell
  have f2 := m2.cell
  rw [← HY.out] at f1 f2
  go_wp2
  rw [HY.out] at f1 f2 ⊢
  exact bodyPost_ret (v := .tuple #[.agg #[.bool b7, .slice A9 n9 c9], .agg #[.bool b2, .slice A6 n6 c6], .int .i64 0]) (by simp [results, Tryz.results59, go_sem, f1, f2]) rfl ⟨_, _, rfl, hEY, ⟨_, _, _, _, rfl, t1⟩, _, _, _, _, _, rfl, t2⟩
theorem divV {u v : Value} {a b : Nat} {w : World} (h1 : IV w u (a : Int)) (h2 : IV w v (b : Int)) (hn1 : L a ≤ 200000000) (hn2 : L b ≤ 200000000) (hb : b ≠ 0) :
    Calls Tryz.prog 59 #[u, v] w fun e w' => ∃ v r, e = .returned (.tuple #[v, r, .int .i64 0]) ∧ Ext w w' ∧ IV w' v ((a / b : Nat) : Int) ∧ ∃ z, IV w' r z := by
  obtain ⟨b, A, n, c, rfl, h1⟩ := h1
  obtain ⟨b', A', n', c', rfl, h2⟩ := h2
  exact divI h1 h2 (by rw [h1.ns.len]; exact hn1) (by rw [h2.ns.len]; exact hn2) hb
end Go.Proofs.YtodefmfgoehkhaaGreat

/- integer: ToInt of one digit. -/
set_option linter.unusedVariables false
set_option linter.unusedSimpArgs false
namespace Go.Proofs.YtodefmfgoehkhaaGreat
open Go.RowKit Go.Par Go.TN

set_option maxHeartbeats 400000 in
theorem toI {b : Bool} {A : Option Addr} {n c m : Nat} {w : World} (h : IS w b A n c (m : Int)) (hm : m < 4294967296) :
    Calls Tryz.prog 31 #[.agg #[.bool b, .slice A n c]] w fun e w' => e = .returned (.tuple #[.int .i64 (m : Int), .bool true]) ∧ Ext w w' := by
  have hE := Ext.alloc w (.cells #[.bool b, .slice A n c] 27)
  have x0 := (Box.new w 27 #[.bool b, .slice A n c])
  have e1 : b = false := by rw [h.neg]; exact decide_eq_false (by omega)
  subst e1
  have hn := h.ns.len
  simp only [Int.natAbs_natCast] at hn
  have hL : L m ≤ 1 := dig_lt (show m < BB ^ 1 from hm)
  have HN := Lib.hid (normS (h.ns.ext hE) (by omega))
  simp only [Int.natAbs_natCast] at HN
  clear h hn
  by_cases h0 : m = 0
  · subst h0
    go_enter Tryz.func31, Tryz.ntmps31
    go_wp2_with fail
    refine HN.out.mono ?_
    rintro e w1 ⟨v, rfl, hE1, A1, n1, c1, rfl, g1⟩
    have e2 : n1 = 0 := by rw [g1.len, L_zero]
    subst e2
    have f1 := (x0.ext hE1).cell
    have hE2 := hE.trans hE1
    clear HN hL g1
    go_wp2_with fail
    go_loopw [5, 6] (fun v k wr => v = .int .u64 0 ∧ k = .int .i64 (-1) ∧ wr = w1) (fun _ k _ => 0)
    case atStart => exact ⟨rfl, rfl, rfl⟩
    case round =>
      obtain ⟨rfl, rfl, rfl⟩ := hrel
      go_wp2
      exact bodyPost_ret (v := .tuple #[.int .i64 (0 : Nat), .bool true]) (by simp [results, Tryz.results31, go_sem]) rfl ⟨rfl, hE2⟩
  · have e2 : L m = 1 := by have := L_pos h0; omega
    have hd : dig m = [m] := by
      rw [dig_pos h0, Nat.mod_eq_of_lt hm, show m / BB = 0 from Nat.div_eq_of_lt hm, dig_zero]
    go_enter Tryz.func31, Tryz.ntmps31
    go_wp2_with fail
    refine HN.out.mono ?_
    rintro e w1 ⟨v, rfl, hE1, A1, n1, c1, rfl, g1⟩
    have e3 : n1 = 1 := by rw [g1.len, e2]
    subst e3
    have f1 := (x0.ext hE1).cell
    have hE2 := hE.trans hE1
    obtain ⟨b, o, rfl, hcell⟩ := g1.at_ (by rw [hd]; simp)
    have ec : w1.cell? ⟨b, o, none⟩ = some (.int .u32 (m : Int)) := nat_cell hcell (show (dig m)[0]? = some m by rw [hd]; rfl)
    clear HN hL g1 e2 hd hcell
    go_wp2_with fail
    go_loopw [5, 6] (fun v k wr => wr = w1 ∧ (v = .int .u64 0 ∧ k = .int .i64 0 ∨ v = .int .u64 (m : Int) ∧ k = .int .i64 (-1))) (fun _ k _ => (intOf k + 1).toNat)
    case atStart => exact ⟨rfl, .inl ⟨rfl, rfl⟩⟩
    case round =>
      rcases hrel with ⟨rfl, ⟨rfl, rfl⟩ | ⟨rfl, rfl⟩⟩
      · have t1 := or_hi (a := 0) (b := m) (by decide) hm
        rw [show ((0 * BB : Nat) : Int) = 0 from rfl, show 0 * BB + m = m by omega] at t1
        have t2 := wrap64 (d := m) (by omega)
        go_wp2_with fail
        go_roundw
        case rel => simp
        case measure => simp [intOf]
      · have d1 : ((9223372036854775808 : Int) < (m : Int)) = False := eq_false (by omega)
        have d2 : ((m : Int) == 9223372036854775808) = false := by simp; omega
        have d2' : ¬ (m : Int) = 9223372036854775808 := by omega
        have d3 : IntKind.i64.wrap (m : Int) = (m : Int) := IntWalk.i64_in _ (by omega)
        go_wp2
        exact bodyPost_ret (v := .tuple #[.int .i64 (m : Int), .bool true]) (by simp [results, Tryz.results31, go_sem]) rfl ⟨rfl, hE2⟩
theorem toV {u : Value} {m : Nat} {w : World} (h : IV w u (m : Int)) (hm : m < 4294967296) :
    Calls Tryz.prog 31 #[u] w fun e w' => e = .returned (.tuple #[.int .i64 (m : Int), .bool true]) ∧ Ext w w' := by
  obtain ⟨b, A, n, c, rfl, h⟩ := h
  exact toI h hm
end Go.Proofs.YtodefmfgoehkhaaGreat

/- rational: lowest, FromInt. -/
set_option linter.unusedVariables false
set_option linter.unusedSimpArgs false
namespace Go.Proofs.YtodefmfgoehkhaaGreat
open Go.RowKit Go.Par Go.TN

/-! ## numbers in lowest terms -/
theorem low_num (n d : Int) (hd : d ≠ 0) : mkI (decide (signZ n * signZ d < 0)) (n.natAbs / Nat.gcd n.natAbs d.natAbs) = (Rat.divInt n d).num := by
  rw [Rat.num_divInt]
  have hg : Int.gcd d n = Nat.gcd n.natAbs d.natAbs := by rw [Int.gcd_comm]; rfl
  rw [hg]
  have hdv : Nat.gcd n.natAbs d.natAbs ∣ n.natAbs := Nat.gcd_dvd_left _ _
  generalize Nat.gcd n.natAbs d.natAbs = g at *
  have k1 : ((n.natAbs / g : Nat) : Int) = (n.natAbs : Int) / (g : Int) := Int.natCast_ediv _ _
  have k2 : (-(n.natAbs : Int)) / (g : Int) = -((n.natAbs : Int) / (g : Int)) := Int.neg_ediv_of_dvd (Int.natCast_dvd_natCast.2 hdv)
  have e0 : n = 0 → n.natAbs / g = 0 := fun h => by rw [h]; simp
  rcases Int.lt_trichotomy n 0 with h | h | h <;> rcases Int.lt_trichotomy d 0 with h' | h' | h'
  · have a1 : signZ n = -1 := by unfold signZ; rw [if_neg (by omega), if_pos h]
    have a2 : signZ d = -1 := by unfold signZ; rw [if_neg (by omega), if_pos h']
    rw [a1, a2, Int.sign_eq_neg_one_of_neg h', show (-1 : Int) * n = (n.natAbs : Int) by omega, ← k1]; rfl
  · exact absurd h' hd
  · have a1 : signZ n = -1 := by unfold signZ; rw [if_neg (by omega), if_pos h]
    have a2 : signZ d = 1 := by unfold signZ; rw [if_neg (by omega), if_neg (by omega)]
    rw [a1, a2, Int.sign_eq_one_of_pos h', show (1 : Int) * n = -(n.natAbs : Int) by omega, k2, ← k1]; rfl
  · rw [h]; simp [signZ, mkI]
  · exact absurd h' hd
  · rw [h]; simp [signZ, mkI]
  · have a1 : signZ n = 1 := by unfold signZ; rw [if_neg (by omega), if_neg (by omega)]
    have a2 : signZ d = -1 := by unfold signZ; rw [if_neg (by omega), if_pos h']
    rw [a1, a2, Int.sign_eq_neg_one_of_neg h', show (-1 : Int) * n = -(n.natAbs : Int) by omega, k2, ← k1]; rfl
  · exact absurd h' hd
  · have a1 : signZ n = 1 := by unfold signZ; rw [if_neg (by omega), if_neg (by omega)]
    have a2 : signZ d = 1 := by unfold signZ; rw [if_neg (by omega), if_neg (by omega)]
    rw [a1, a2, Int.sign_eq_one_of_pos h', show (1 : Int) * n = (n.natAbs : Int) by omega, ← k1]; rfl
theorem low_den (n d : Int) (hd : d ≠ 0) : d.natAbs / Nat.gcd n.natAbs d.natAbs = (Rat.divInt n d).den := by
  rw [Rat.den_divInt, if_neg hd, Int.gcd_comm]; rfl
theorem signZ_bd (z : Int) : -1 ≤ signZ z ∧ signZ z ≤ 1 := by
  unfold signZ
  split
  · omega
  · split <;> omega
/-! ## how a rational lies -/
/-- eight words read as the number q -/
structure RS (w : World) (b : Bool) (A : Option Addr) (n c : Nat) (b' : Bool) (A' : Option Addr) (n' c' : Nat) (q : Rat) : Prop where
  num : IS w b A n c q.num
  den : IS w b' A' n' c' (q.den : Int)
theorem RS.ext {w w' : World} {b : Bool} {A : Option Addr} {n c : Nat} {b' : Bool} {A' : Option Addr} {n' c' : Nat} {q : Rat} (h : RS w b A n c b' A' n' c' q) (he : Ext w w') : RS w' b A n c b' A' n' c' q := ⟨h.num.ext he, h.den.ext he⟩
def RV (w : World) (v : Value) (q : Rat) : Prop := ∃ b A n c b' A' n' c', v = .agg #[.bool b, .slice A n c, .bool b', .slice A' n' c'] ∧ RS w b A n c b' A' n' c' q
theorem RV.ext {w w' : World} {v : Value} {q : Rat} (h : RV w v q) (he : Ext w w') : RV w' v q := by
  obtain ⟨b, A, n, c, b', A', n', c', e, h⟩ := h
  exact ⟨b, A, n, c, b', A', n', c', e, h.ext he⟩
theorem RV.stable (q : Rat) : Stable (fun v w => RV w v q) := fun _ _ _ h he => h.ext he
/-- both parts have at most k digits -/
structure Sz (k : Nat) (q : Rat) : Prop where
  num : L q.num.natAbs ≤ k
  den : L q.den ≤ k
theorem Sz.mono {k m : Nat} {q : Rat} (h : Sz k q) (hk : k ≤ m) : Sz m q := ⟨Nat.le_trans h.num hk, Nat.le_trans h.den hk⟩
theorem Sz.low {k : Nat} {n d : Int} (hd : d ≠ 0) (h1 : L n.natAbs ≤ k) (h2 : L d.natAbs ≤ k) : Sz k (Rat.divInt n d) := by
  refine ⟨?_, ?_⟩
  · rw [← low_num n d hd, mkI_abs]
    exact Nat.le_trans (L_le (Nat.div_le_self _ _)) h1
  · rw [← low_den n d hd]
    exact Nat.le_trans (L_le (Nat.div_le_self _ _)) h2
/-- what stands in a result's block of four cells -/
theorem RV.put {w w1 : World} {g : Nat} {u u' : Bool} {D D' : Option Addr} {m d m' d' : Nat} {v : Value} {q : Rat} (h : RV w1 v q) (hg : Box w1 g 29 #[.bool u, .slice D m d, .bool u', .slice D' m' d']) (hgw : w.heap.size ≤ g) (hE : Ext w w1) :
    ∃ b A n c b' A' n' c', v = .agg #[.bool b, .slice A n c, .bool b', .slice A' n' c'] ∧
      Ext w ((((w1.setCell ⟨g, 0, none⟩ (.bool b)).setCell ⟨g, 1, none⟩ (.slice A n c)).setCell ⟨g, 2, none⟩ (.bool b')).setCell ⟨g, 3, none⟩ (.slice A' n' c')) ∧
      RV ((((w1.setCell ⟨g, 0, none⟩ (.bool b)).setCell ⟨g, 1, none⟩ (.slice A n c)).setCell ⟨g, 2, none⟩ (.bool b')).setCell ⟨g, 3, none⟩ (.slice A' n' c')) (.agg #[.bool b, .slice A n c, .bool b', .slice A' n' c']) q := by
  obtain ⟨b, A, n, c, b', A', n', c', rfl, h1, h2⟩ := h
  have k := ((((But.refl g w1).set 0 (.bool b)).set 1 (.slice A n c)).set 2 (.bool b')).set 3 (.slice A' n' c')
  exact ⟨b, A, n, c, b', A', n', c', rfl, hE.but k hgw, _, _, _, _, _, _, _, _, rfl, h1.but (NoDig.rat hg) k, h2.but (NoDig.rat hg) k⟩
/-! ## the walks -/
set_option maxHeartbeats 400000 in
theorem fromIntV (z : Int) (w : World) (h1 : -9223372036854775808 ≤ z) (h2 : z ≤ 9223372036854775807) :
    Calls Tryz.prog 8 #[.int .i64 z] w fun e w' => ∃ v, e = .returned v ∧ Ext w w' ∧ RV w' v (z : Rat) := by
  have hE := Ext.alloc w (.cells #[.bool false, .slice none 0 0, .bool false, .slice none 0 0] 29)
  have b4 := Box.new w 29 #[.bool false, .slice none 0 0, .bool false, .slice none 0 0]
  have H1 := Lib.hid (fun W => fromI z W h1 h2)
  clear h1 h2
  go_enter Tryz.func8, Tryz.ntmps8
  go_wp2_with fail
  refine (H1.out _).mono ?_
  rintro e w1 ⟨v, rfl, hE1, b, A, n, c, rfl, g1⟩
  go_wp2_with fail
  refine (fromI 1 _ (by omega) (by omega)).mono ?_
  rintro e w2 ⟨v, rfl, hE2, b', A', n', c', rfl, g2⟩
  replace b4 := (b4.ext hE1).ext hE2
  have hq : RV w2 (.agg #[.bool b, .slice A n c, .bool b', .slice A' n' c']) (z : Rat) := ⟨_, _, _, _, _, _, _, _, rfl, g1.ext hE2, g2⟩
  obtain ⟨b, A, n, c, b', A', n', c', e, hEf, gf⟩ := hq.put b4 (Nat.le_refl _) ((hE.trans hE1).trans hE2)
  simp only [Value.agg.injEq, Array.mk.injEq, List.cons.injEq, Value.bool.injEq, Value.slice.injEq, and_true] at e
  obtain ⟨rfl, ⟨rfl, rfl, rfl⟩, rfl, rfl, rfl, rfl⟩ := e
  have c4 := b4.cell
  have f4 := b4.frozen
  clear g1 g2 H1 hq hE1 hE2
  go_wp2
  exact bodyPost_ret (v := .agg #[.bool b, .slice A n c, .bool b', .slice A' n' c']) (by simp [results, Tryz.results8, go_sem, c4, f4]) rfl ⟨_, rfl, hEf, gf⟩
set_option maxHeartbeats 400000 in
theorem lowest1 {b : Bool} {A B : Option Addr} {n c m d g k : Nat} {z : Int} {w : World} (h : IS w b A n c z) (hn : n ≤ 400000000) (hg : Box w g 25 #[.slice B m d]) (hk : NS w B m d k) (hm : m ≤ 400000000) (h0 : k ≠ 0) :
    Calls Tryz.prog 61 #[.agg #[.bool b, .slice A n c], .pointer (some ⟨g, 0, none⟩)] w fun e w' => ∃ v, e = .returned v ∧ Ext w w' ∧ NV w' v (z.natAbs / k) := by
  have hE := Ext.alloc w (.cells #[.bool b, .slice A n c] 27)
  have c0 := (hg.ext hE).cell
  have H1 := Lib.hid (divS (h.ns.ext hE) (hk.ext hE) hn hm h0)
  clear h hk
  go_enter Tryz.func61, Tryz.ntmps61
  go_wp2_with fail
  refine H1.out.mono ?_
  rintro e w1 ⟨q, r, rfl, hE1, g1, g2⟩
  clear H1 c0
  go_wp2
  go_ret
  exact ⟨_, ret_eq rfl, hE.trans hE1, g1⟩
end Go.Proofs.YtodefmfgoehkhaaGreat

/- rational: lowest. -/
set_option linter.unusedVariables false
set_option linter.unusedSimpArgs false
namespace Go.Proofs.YtodefmfgoehkhaaGreat
open Go.RowKit Go.Par Go.TN

set_option maxHeartbeats 800000 in
set_option maxRecDepth 8000 in
theorem lowI {b1 b2 : Bool} {A1 A2 : Option Addr} {n1 n2 c1 c2 : Nat} {z1 z2 : Int} {w : World} (h1 : IS w b1 A1 n1 c1 z1) (h2 : IS w b2 A2 n2 c2 z2) (hn1 : n1 ≤ 400000000) (hn2 : n2 ≤ 400000000) (hz : z2 ≠ 0) :
    Calls Tryz.prog 34 #[.agg #[.bool b1, .slice A1 n1 c1], .agg #[.bool b2, .slice A2 n2 c2]] w fun e w' => ∃ v, e = .returned v ∧ Ext w w' ∧ RV w' v (Rat.divInt z1 z2) := by
  have hE := ((Ext.alloc w (.cells #[.bool b1, .slice A1 n1 c1] 27)).trans (Ext.alloc _ (.cells #[.bool b2, .slice A2 n2 c2] 27))).trans (Ext.alloc _ (.cells #[.bool false, .slice none 0 0, .bool false, .slice none 0 0] 29))
  have x0 := ((Box.new w 27 #[.bool b1, .slice A1 n1 c1]).alloc (.cells #[.bool b2, .slice A2 n2 c2] 27)).alloc (.cells #[.bool false, .slice none 0 0, .bool false, .slice none 0 0] 29)
  have x1 := (Box.at1 (w := w) (o := .cells #[.bool b1, .slice A1 n1 c1] 27) (t := 27) (cs := #[.bool b2, .slice A2 n2 c2])).alloc (.cells #[.bool false, .slice none 0 0, .bool false, .slice none 0 0] 29)
  have x2 := Box.at2 (w := w) (o := .cells #[.bool b1, .slice A1 n1 c1] 27) (o' := .cells #[.bool b2, .slice A2 n2 c2] 27) (t := 29) (cs := #[.bool false, .slice none 0 0, .bool false, .slice none 0 0])
  have l1 := h1.ns.len
  have l2 := h2.ns.len
  have hG := Lib.hid (gcdS (h1.ns.ext hE) (h2.ns.ext hE) hn1 hn2)
  obtain ⟨g, hg⟩ : ∃ g, Nat.gcd z1.natAbs z2.natAbs = g := ⟨_, rfl⟩
  have hg0 : g ≠ 0 := by
    rw [← hg]
    exact fun e => absurd (Nat.gcd_eq_zero_iff.1 e).2 (by omega)
  have lg : L g ≤ 400000000 := by
    have := L_le (Nat.le_of_dvd (show 0 < z2.natAbs by omega) (Nat.gcd_dvd_right z1.natAbs z2.natAbs))
    rw [hg] at this
    omega
  have q1 := low_num z1 z2 hz
  have q2 := low_den z1 z2 hz
  rw [hg] at q1 q2 hG
  obtain ⟨s1, hs1⟩ : ∃ s, signZ z1 = s := ⟨_, rfl⟩
  obtain ⟨s2, hs2⟩ : ∃ s, signZ z2 = s := ⟨_, rfl⟩
  have hw : IntKind.i64.wrap (s1 * s2) = s1 * s2 := by
    have a1 := signZ_bd z1
    have a2 := signZ_bd z2
    rw [hs1] at a1
    rw [hs2] at a2
    obtain h | h | h : s1 = -1 ∨ s1 = 0 ∨ s1 = 1 := by omega
    all_goals
      subst h
      exact IntWalk.i64_in _ (by omega)
  have HS1 := Lib.hid (fun W (he : Ext w W) => signI (h1.ext he) hn1)
  have HS2 := Lib.hid (fun W (he : Ext w W) => signI (h2.ext he) hn2)
  rw [hs1] at HS1
  rw [hs2] at HS2
  rw [hs1, hs2] at q1
  have p1 := L_le (Nat.div_le_self z1.natAbs g)
  have p2 := L_le (Nat.div_le_self z2.natAbs g)
  have HN1 := Lib.hid (fun W v (he : NV W v (z1.natAbs / g)) => newV (b := decide (s1 * s2 < 0)) he (by omega))
  have HN2 := Lib.hid (fun W v (he : NV W v (z2.natAbs / g)) => newV (b := false) he (by omega))
  rw [q1] at HN1
  rw [q2] at HN2
  have HC1 := Lib.hid (fun W (he : Ext w W) k B m d (hb : Box W k 25 #[.slice B m d]) (hk : NS W B m d g) => lowest1 (h1.ext he) hn1 hb hk (by rw [hk.len]; exact lg) hg0)
  have HC2 := Lib.hid (fun W (he : Ext w W) k B m d (hb : Box W k 25 #[.slice B m d]) (hk : NS W B m d g) => lowest1 (h2.ext he) hn2 hb hk (by rw [hk.len]; exact lg) hg0)
  rw [q2] at HC2
  have HW := Lib.hid hw
  obtain ⟨p, hp⟩ : ∃ p, s1 * s2 = p := ⟨_, rfl⟩
  rw [hp] at HN1
  replace hw := hw.trans hp
  clear h1 h2 l1 l2 hn1 hn2 q1 q2 hs1 hs2 hg hg0 lg p1 p2 HW hp
  go_enter Tryz.func34, Tryz.ntmps34
  go_wp2_with fail
  refine hG.out.mono ?_
  rintro e w1 ⟨v, rfl, hE1, A, n, c, rfl, g1⟩
  replace hE := hE.trans hE1
  replace x0 := x0.ext hE1
  replace x1 := x1.ext hE1
  replace x2 := x2.ext hE1
  clear hE1 hG
  go_wp2_with fail
  apply wp_region_par' 15 (by kernel_rfl) (by kernel_rfl) rfl
  simp only [List.take_succ_cons, List.take_zero, List.drop_succ_cons, List.drop_zero]
  generalize hW : World.drew _ = W
  have hEW : Ext w1 W := by rw [← hW]; exact (Ext.alloc _ _).trans (Ext.drew _)
  have x3 : Box W w1.heap.size 25 #[.slice A n c] := by rw [← hW]; exact (Box.new _ _ _).drew
  replace x0 := x0.ext hEW
  replace x1 := x1.ext hEW
  replace x2 := x2.ext hEW
  replace hE := hE.trans hEW
  replace g1 := g1.ext hEW
  clear hW hEW
  have z0 := x0.lcell
  have z1' := x1.lcell
  iterate 8
    refine parW_step rfl (fun K hK => ?_)
    apply Exists.intro
    refine ⟨fun z => ?_, ?_⟩
    focus
      go_simp
      first
        | rfl
        | with_reducible exact calls_val (HS1.out _ (hE.later _))
        | with_reducible exact calls_val (HS2.out _ (hE.later _))
    go_simp
    refine hK _ ?_
    clear hK K
  refine parW_rel rfl (NV.stable (z1.natAbs / g)) (fun x => ?_) ?_
  · have hc := HC1.out x.val (hE.later x) _ _ _ _ (x3.later x) (g1.ext x.prop)
    simp only [Giv]
    go_simp
    exact calls_rel hc
  refine parW_rel rfl (IV.stable (Rat.divInt z1 z2).num) (fun x => ?_) ?_
  · intro v1 hv1
    have k1 := hv1 (show Nat.testBit _ _ = true from by kernel_rfl)
    have hc := HN1.out x.val v1 k1
    simp only [Giv]
    go_simp
    exact calls_rel hc
  iterate 2
    refine parW_step rfl (fun K hK => ?_)
    apply Exists.intro
    refine ⟨fun z => ?_, ?_⟩
    focus
      go_simp
      first
        | rfl
        | fail
    go_simp
    refine hK _ ?_
    clear hK K
  refine parW_rel rfl (NV.stable (Rat.divInt z1 z2).den) (fun x => ?_) ?_
  · intro v1 hv1 v2 hv2
    have hc := HC2.out x.val (hE.later x) _ _ _ _ (x3.later x) (g1.ext x.prop)
    simp only [Giv]
    go_simp
    exact calls_rel hc
  refine parW_rel rfl (IV.stable ((Rat.divInt z1 z2).den : Int)) (fun x => ?_) ?_
  · intro v1 hv1 v2 hv2 v3 hv3
    have k1 := hv3 (show Nat.testBit _ _ = true from by kernel_rfl)
    have hc := HN2.out x.val v3 k1
    simp only [Giv]
    go_simp
    exact calls_rel hc
  refine parW_rel rfl (RV.stable (Rat.divInt z1 z2)) (fun x => ?_) ?_
  · intro v1 hv1 v2 hv2 v3 hv3 v4 hv4
    obtain ⟨b5, A5, n5, c5, rfl, k1⟩ := hv2 (show Nat.testBit _ _ = true from by kernel_rfl)
    obtain ⟨b6, A6, n6, c6, rfl, k2⟩ := hv4 (show Nat.testBit _ _ = true from by kernel_rfl)
    simp only [Giv]
    go_simp
    exact ⟨_, _, _, _, _, _, _, _, rfl, k1, k2⟩
  refine parW_fin (fun z => ?_)
  rintro v1 - v2 - v3 - v4 - v5 hv5 hp
  simp only [Act.put, List.setIfInBounds_toArray, List.set_cons_succ, List.set_cons_zero]
  obtain ⟨b, A', n', c', b', A'', n'', c'', rfl, hEf, gf⟩ := RV.put hv5 (x2.later z) (by omega) (hE.trans z.prop)
  have c4 := (x2.later z).cell
  have f4 := (x2.later z).frozen
  clear hv5 hp z0 z1' HS1 HS2 HN1 HN2 HC1 HC2 x0 x1 x2 x3 g1 hw
  generalize z.val = Z at *
  go_wp2
  exact bodyPost_ret (v := .agg #[.bool b, .slice A' n' c', .bool b', .slice A'' n'' c'']) (by simp [results, Tryz.results34, go_sem, c4, f4]) rfl ⟨_, rfl, hEf, gf⟩
theorem lowV {u v : Value} {z1 z2 : Int} {w : World} (h1 : IV w u z1) (h2 : IV w v z2) (hn1 : L z1.natAbs ≤ 400000000) (hn2 : L z2.natAbs ≤ 400000000) (hz : z2 ≠ 0) :
    Calls Tryz.prog 34 #[u, v] w fun e w' => ∃ v, e = .returned v ∧ Ext w w' ∧ RV w' v (Rat.divInt z1 z2) := by
  obtain ⟨b, A, n, c, rfl, h1⟩ := h1
  obtain ⟨b', A', n', c', rfl, h2⟩ := h2
  exact lowI h1 h2 (by rw [h1.ns.len]; exact hn1) (by rw [h2.ns.len]; exact hn2) hz
end Go.Proofs.YtodefmfgoehkhaaGreat

/- rational: New, FromInts, Normalize, cross, Cmp. -/
set_option linter.unusedVariables false
set_option linter.unusedSimpArgs false
namespace Go.Proofs.YtodefmfgoehkhaaGreat
open Go.RowKit Go.Par Go.TN

set_option maxHeartbeats 400000 in
theorem newR {b1 b2 : Bool} {A1 A2 : Option Addr} {n1 n2 c1 c2 : Nat} {z1 z2 : Int} {w : World} (h1 : IS w b1 A1 n1 c1 z1) (h2 : IS w b2 A2 n2 c2 z2) (hn1 : n1 ≤ 400000000) (hn2 : n2 ≤ 400000000) (hz : z2 ≠ 0) :
    Calls Tryz.prog 36 #[.agg #[.bool b1, .slice A1 n1 c1], .agg #[.bool b2, .slice A2 n2 c2]] w fun e w' => ∃ v, e = .returned (.tuple #[v, .int .i64 0]) ∧ Ext w w' ∧ RV w' v (Rat.divInt z1 z2) := by
  have hE := ((Ext.alloc w (.cells #[.bool b1, .slice A1 n1 c1] 27)).trans (Ext.alloc _ (.cells #[.bool b2, .slice A2 n2 c2] 27))).trans (Ext.alloc _ (.cells #[.bool false, .slice none 0 0, .bool false, .slice none 0 0] 29))
  have x0 := ((Box.new w 27 #[.bool b1, .slice A1 n1 c1]).alloc (.cells #[.bool b2, .slice A2 n2 c2] 27)).alloc (.cells #[.bool false, .slice none 0 0, .bool false, .slice none 0 0] 29)
  have x1 := (Box.at1 (w := w) (o := .cells #[.bool b1, .slice A1 n1 c1] 27) (t := 27) (cs := #[.bool b2, .slice A2 n2 c2])).alloc (.cells #[.bool false, .slice none 0 0, .bool false, .slice none 0 0] 29)
  have x2 := Box.at2 (w := w) (o := .cells #[.bool b1, .slice A1 n1 c1] 27) (o' := .cells #[.bool b2, .slice A2 n2 c2] 27) (t := 29) (cs := #[.bool false, .slice none 0 0, .bool false, .slice none 0 0])
  have HS := Lib.hid (signI (h2.ext hE) hn2)
  have HL := Lib.hid (fun W (he : Ext w W) => lowI (h1.ext he) (h2.ext he) hn1 hn2 hz)
  have hs : signZ z2 ≠ 0 := by
    unfold signZ
    rw [if_neg hz]
    split <;> omega
  generalize signZ z2 = s at *
  have hs' : (s == 0) = false := by simp [hs]
  clear h1 h2 hz
  go_enter Tryz.func36, Tryz.ntmps36
  go_wp2_with fail
  refine HS.out.mono ?_
  rintro e w1 ⟨rfl, hE1⟩
  replace hE := hE.trans hE1
  replace x0 := x0.ext hE1
  replace x1 := x1.ext hE1
  replace x2 := x2.ext hE1
  have f0 := x0.cell
  have f1 := x1.cell
  clear hE1 HS
  go_wp2_with fail
  refine (HL.out _ hE).mono ?_
  rintro e w2 ⟨v, rfl, hE1, g1⟩
  obtain ⟨b, A', n', c', b', A'', n'', c'', rfl, hEf, gf⟩ := g1.put (x2.ext hE1) (by omega) (hE.trans hE1)
  have c4 := (x2.ext hE1).cell
  have f4 := (x2.ext hE1).frozen
  clear g1 hE1 hE HL f0 f1 x0 x1 x2
  go_wp2
  exact bodyPost_ret (v := .tuple #[.agg #[.bool b, .slice A' n' c', .bool b', .slice A'' n'' c''], .int .i64 0]) (by simp [results, Tryz.results36, go_sem, c4, f4]) rfl ⟨_, rfl, hEf, gf⟩
theorem newRV {u v : Value} {z1 z2 : Int} {w : World} (h1 : IV w u z1) (h2 : IV w v z2) (hn1 : L z1.natAbs ≤ 400000000) (hn2 : L z2.natAbs ≤ 400000000) (hz : z2 ≠ 0) :
    Calls Tryz.prog 36 #[u, v] w fun e w' => ∃ v, e = .returned (.tuple #[v, .int .i64 0]) ∧ Ext w w' ∧ RV w' v (Rat.divInt z1 z2) := by
  obtain ⟨b, A, n, c, rfl, h1⟩ := h1
  obtain ⟨b', A', n', c', rfl, h2⟩ := h2
  exact newR h1 h2 (by rw [h1.ns.len]; exact hn1) (by rw [h2.ns.len]; exact hn2) hz
theorem L_i64 {z : Int} (h1 : -9223372036854775808 ≤ z) (h2 : z ≤ 9223372036854775807) : L z.natAbs ≤ 2 := L_small (by omega)
set_option maxHeartbeats 400000 in
theorem fromIntsV (n d : Int) (w : World) (h1 : -9223372036854775808 ≤ n) (h2 : n ≤ 9223372036854775807) (h3 : -9223372036854775808 ≤ d) (h4 : d ≤ 9223372036854775807) (hd : d ≠ 0) :
    Calls Tryz.prog 14 #[.int .i64 n, .int .i64 d] w fun e w' => ∃ v, e = .returned (.tuple #[v, .int .i64 0]) ∧ Ext w w' ∧ RV w' v (Rat.divInt n d) := by
  have hE := Ext.alloc w (.cells #[.bool false, .slice none 0 0, .bool false, .slice none 0 0] 29)
  have b4 := Box.new w 29 #[.bool false, .slice none 0 0, .bool false, .slice none 0 0]
  have H1 := Lib.hid (fun W => fromI n W h1 h2)
  have H2 := Lib.hid (fun W => fromI d W h3 h4)
  have l1 := L_i64 h1 h2
  have l2 := L_i64 h3 h4
  have H3 := Lib.hid (fun W u v (hu : IV W u n) (hv : IV W v d) => newRV hu hv (by omega) (by omega) hd)
  clear h1 h2 h3 h4 l1 l2 hd
  go_enter Tryz.func14, Tryz.ntmps14
  go_wp2_with fail
  refine (H1.out _).mono ?_
  rintro e w1 ⟨u, rfl, hE1, g1⟩
  go_wp2_with fail
  refine (H2.out _).mono ?_
  rintro e w2 ⟨v, rfl, hE2, g2⟩
  go_wp2_with fail
  refine (H3.out _ _ _ (g1.ext hE2) g2).mono ?_
  rintro e w3 ⟨v, rfl, hE3, g3⟩
  replace b4 := ((b4.ext hE1).ext hE2).ext hE3
  obtain ⟨b, A, n, c, b', A', n', c', rfl, hEf, gf⟩ := g3.put b4 (Nat.le_refl _) (((hE.trans hE1).trans hE2).trans hE3)
  have c4 := b4.cell
  have f4 := b4.frozen
  clear g1 g2 g3 H1 H2 H3 hE1 hE2 hE3
  go_wp2
  exact bodyPost_ret (v := .tuple #[.agg #[.bool b, .slice A n c, .bool b', .slice A' n' c'], .int .i64 0]) (by simp [results, Tryz.results14, go_sem, c4, f4]) rfl ⟨_, rfl, hEf, gf⟩
set_option maxHeartbeats 400000 in
theorem normR {b1 b2 : Bool} {A1 A2 : Option Addr} {n1 n2 c1 c2 : Nat} {q : Rat} {w : World} (h : RS w b1 A1 n1 c1 b2 A2 n2 c2 q) (hn1 : n1 ≤ 400000000) (hn2 : n2 ≤ 400000000) :
    Calls Tryz.prog 54 #[.agg #[.bool b1, .slice A1 n1 c1, .bool b2, .slice A2 n2 c2]] w fun e w' => ∃ v, e = .returned v ∧ Ext w w' ∧ RV w' v q := by
  have hE := (Ext.alloc w (.cells #[.bool b1, .slice A1 n1 c1, .bool b2, .slice A2 n2 c2] 29)).trans (Ext.alloc _ (.cells #[.bool false, .slice none 0 0, .bool false, .slice none 0 0] 29))
  have x1 := Box.at1 (w := w) (o := .cells #[.bool b1, .slice A1 n1 c1, .bool b2, .slice A2 n2 c2] 29) (t := 29) (cs := #[.bool false, .slice none 0 0, .bool false, .slice none 0 0])
  have H1 := Lib.hid (newR (h.num.ext hE) (h.den.ext hE) hn1 hn2 (by have := q.den_pos; omega))
  rw [Rat.num_divInt_den] at H1
  clear h
  go_enter Tryz.func54, Tryz.ntmps54
  go_wp2_with fail
  refine H1.out.mono ?_
  rintro e w1 ⟨v, rfl, hE1, g1⟩
  obtain ⟨b, A, n, c, b', A', n', c', rfl, g1⟩ := g1
  have hq : RV (w1.alloc (.cells #[.bool b, .slice A n c, .bool b', .slice A' n' c'] 29)) (.agg #[.bool b, .slice A n c, .bool b', .slice A' n' c']) q := ⟨_, _, _, _, _, _, _, _, rfl, g1.ext (Ext.alloc _ _)⟩
  have x2 := (x1.ext hE1).alloc (.cells #[.bool b, .slice A n c, .bool b', .slice A' n' c'] 29)
  have x3 := Box.new w1 29 #[.bool b, .slice A n c, .bool b', .slice A' n' c']
  have hEf := (hE.trans hE1).trans (Ext.alloc w1 (.cells #[.bool b, .slice A n c, .bool b', .slice A' n' c'] 29))
  obtain ⟨k1, k2, k3, k4, k5, k6, k7, k8, e, hEf, gf⟩ := hq.put x2 (by omega) hEf
  simp only [Value.agg.injEq, Array.mk.injEq, List.cons.injEq, Value.bool.injEq, Value.slice.injEq, and_true] at e
  obtain ⟨rfl, ⟨rfl, rfl, rfl⟩, rfl, rfl, rfl, rfl⟩ := e
  have c4 := x2.cell
  have f4 := x2.frozen
  have c5 := x3.cell
  clear g1 hq H1 hE hE1 x1 x2 x3
  go_wp2
  exact bodyPost_ret (v := .agg #[.bool b, .slice A n c, .bool b', .slice A' n' c']) (by simp [results, Tryz.results54, go_sem, c4, f4]) rfl ⟨_, rfl, hEf, gf⟩
theorem normV' {u : Value} {q : Rat} {k : Nat} {w : World} (h : RV w u q) (hq : Sz k q) (hk : k ≤ 400000000) :
    Calls Tryz.prog 54 #[u] w fun e w' => ∃ v, e = .returned v ∧ Ext w w' ∧ RV w' v q := by
  obtain ⟨b, A, n, c, b', A', n', c', rfl, h⟩ := h
  exact normR h (by rw [h.num.ns.len]; exact Nat.le_trans hq.num hk) (by rw [h.den.ns.len, Int.natAbs_natCast]; exact Nat.le_trans hq.den hk)
end Go.Proofs.YtodefmfgoehkhaaGreat
