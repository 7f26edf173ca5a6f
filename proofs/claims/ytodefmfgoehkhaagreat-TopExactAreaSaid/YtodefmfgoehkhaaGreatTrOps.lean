/- rational: Cmp, Add, Sub, Midpoint (printed by gen_rat.py). -/
import Derived.Test.YtodefmfgoehkhaaGreatTrCross
set_option linter.unusedVariables false
set_option linter.unusedSimpArgs false
namespace Go.Proofs.YtodefmfgoehkhaaGreat
open Go.RowKit Go.Par Go.TN

def cmpQ (a b : Rat) : Int := signZ (a.num * b.den - b.num * a.den)
theorem cmpQ_neg {a b : Rat} : cmpQ a b < 0 ↔ a < b := by
  rw [Rat.lt_iff]
  unfold cmpQ signZ
  split
  · omega
  · split <;> omega
theorem cmpQ_pos {a b : Rat} : 0 < cmpQ a b ↔ b < a := by
  rw [Rat.lt_iff]
  unfold cmpQ signZ
  split
  · omega
  · split <;> omega
theorem cmpQ_zero {a b : Rat} : cmpQ a b = 0 ↔ a = b := by
  constructor
  · intro h
    have h1 : ¬ a < b := fun e => by have := cmpQ_neg.2 e; omega
    have h2 : ¬ b < a := fun e => by have := cmpQ_pos.2 e; omega
    exact Rat.le_antisymm (Rat.not_lt.1 h2) (Rat.not_lt.1 h1)
  · rintro rfl
    unfold cmpQ signZ
    rw [if_pos (by omega)]
theorem cmpQ_bd (a b : Rat) : -1 ≤ cmpQ a b ∧ cmpQ a b ≤ 1 := signZ_bd _
theorem add_def (a b : Rat) : Rat.divInt (a.num * b.den + b.num * a.den) ((a.den : Int) * b.den) = a + b := by
  have h := Rat.divInt_add_divInt a.num b.num (d₁ := a.den) (d₂ := b.den) (by have := a.den_pos; omega) (by have := b.den_pos; omega)
  rw [← h, Rat.num_divInt_den, Rat.num_divInt_den]
theorem sub_def (a b : Rat) : Rat.divInt (a.num * b.den - b.num * a.den) ((a.den : Int) * b.den) = a - b := by
  have h := Rat.divInt_sub_divInt a.num b.num (d₁ := a.den) (d₂ := b.den) (by have := a.den_pos; omega) (by have := b.den_pos; omega)
  rw [← h, Rat.num_divInt_den, Rat.num_divInt_den]
theorem mul_def (a b : Rat) : Rat.divInt (a.num * b.num) ((a.den : Int) * b.den) = a * b := by
  have h := Rat.divInt_mul_divInt a.num b.num (d₁ := a.den) (d₂ := b.den)
  rw [← h, Rat.num_divInt_den, Rat.num_divInt_den]
theorem den_ne (a b : Rat) : (a.den : Int) * b.den ≠ 0 := Int.mul_ne_zero (by have := a.den_pos; omega) (by have := b.den_pos; omega)
theorem mid_def (a b : Rat) : Rat.divInt (a.num * b.den + b.num * a.den) ((a.den : Int) * b.den + (a.den : Int) * b.den) = (a + b) / 2 := by
  rw [← add_def, Rat.divInt_eq_div, Rat.divInt_eq_div]
  have := den_ne a b
  generalize (a.den : Int) * b.den = d at *
  have hd : (d : Rat) ≠ 0 := by exact_mod_cast this
  rw [Rat.intCast_add]
  grind
theorem quo_def (a b : Rat) : Rat.divInt (a.num * b.den) ((a.den : Int) * b.num) = a / b := by
  rw [Rat.div_def, Rat.inv_def]
  have h := Rat.divInt_mul_divInt a.num b.den (d₁ := a.den) (d₂ := b.num)
  rw [← h, Rat.num_divInt_den]
theorem L_one : L 1 = 1 := by
  have h1 : L 1 ≤ 1 := dig_lt (show 1 < BB ^ 1 by decide)
  have h2 := L_pos (show (1 : Nat) ≠ 0 by decide)
  omega
theorem Sz.int {z : Int} {k : Nat} (h : L z.natAbs ≤ k) (hk : 1 ≤ k) : Sz k (z : Rat) := ⟨h, by show L 1 ≤ k; rw [L_one]; exact hk⟩
section
variable {a b : Rat} {k m : Nat}
theorem Sz.x (ha : Sz k a) (hb : Sz m b) : L (a.num * b.den).natAbs ≤ k + m := by
  have := LZ_mul a.num b.den
  have h1 := ha.num
  have h2 := hb.den
  rw [Int.natAbs_natCast] at this
  omega
theorem Sz.d (ha : Sz k a) (hb : Sz m b) : L ((a.den : Int) * b.den).natAbs ≤ k + m := by
  have := LZ_mul a.den b.den
  have h1 := ha.den
  have h2 := hb.den
  rw [Int.natAbs_natCast, Int.natAbs_natCast] at this
  omega
theorem Sz.n (ha : Sz k a) (hb : Sz m b) : L (a.num * b.num).natAbs ≤ k + m := by
  have := LZ_mul a.num b.num
  have h1 := ha.num
  have h2 := hb.num
  omega
theorem Sz.e (ha : Sz k a) (hb : Sz m b) : L ((a.den : Int) * b.num).natAbs ≤ k + m := by
  have := LZ_mul a.den b.num
  have h1 := ha.den
  have h2 := hb.num
  rw [Int.natAbs_natCast] at this
  omega
end
theorem Sz.y {a b : Rat} {k m : Nat} (ha : Sz k a) (hb : Sz m b) : L (b.num * a.den).natAbs ≤ k + m := by rw [Nat.add_comm]; exact hb.x ha
theorem Sz.add {a b : Rat} {k m : Nat} (ha : Sz k a) (hb : Sz m b) : Sz (k + m + 1) (a + b) := by
  rw [← add_def]
  have h1 := ha.x hb
  have h2 := ha.y hb
  exact Sz.low (den_ne a b) (by have := LZ_add (a.num * b.den) (b.num * a.den); omega) (by have := ha.d hb; omega)
theorem Sz.sub {a b : Rat} {k m : Nat} (ha : Sz k a) (hb : Sz m b) : Sz (k + m + 1) (a - b) := by
  rw [← sub_def]
  have h1 := ha.x hb
  have h2 := ha.y hb
  exact Sz.low (den_ne a b) (by have := LZ_sub (a.num * b.den) (b.num * a.den); omega) (by have := ha.d hb; omega)
theorem Sz.mul {a b : Rat} {k m : Nat} (ha : Sz k a) (hb : Sz m b) : Sz (k + m) (a * b) := by
  rw [← mul_def]
  exact Sz.low (den_ne a b) (ha.n hb) (ha.d hb)
theorem dd_ne (a b : Rat) : (a.den : Int) * b.den + (a.den : Int) * b.den ≠ 0 := by have := den_ne a b; omega
theorem Sz.mid {a b : Rat} {k m : Nat} (ha : Sz k a) (hb : Sz m b) : Sz (k + m + 1) ((a + b) / 2) := by
  rw [← mid_def]
  have h1 := ha.x hb
  have h2 := ha.y hb
  have h3 := ha.d hb
  exact Sz.low (dd_ne a b) (by have := LZ_add (a.num * b.den) (b.num * a.den); omega) (by have := LZ_add ((a.den : Int) * b.den) ((a.den : Int) * b.den); omega)
theorem qd_ne (a b : Rat) (hb : b ≠ 0) : (a.den : Int) * b.num ≠ 0 := Int.mul_ne_zero (by have := a.den_pos; omega) (fun e => hb (Rat.num_eq_zero.1 e))
theorem Sz.quo {a b : Rat} {k m : Nat} (ha : Sz k a) (hb : Sz m b) (h0 : b ≠ 0) : Sz (k + m) (a / b) := by
  rw [← quo_def]
  exact Sz.low (qd_ne a b h0) (ha.x hb) (ha.e hb)
theorem crossV {u v : Value} {p q : Rat} {w : World} (h1 : RV w u p) (h2 : RV w v q) (hn1 : Sz 200000000 p) (hn2 : Sz 200000000 q) :
    Calls Tryz.prog 29 #[u, v] w fun e w' =>
      ∃ x y d, e = .returned (.tuple #[x, y, d]) ∧ Ext w w' ∧ IV w' x (p.num * q.den) ∧ IV w' y (q.num * p.den) ∧ IV w' d ((p.den : Int) * q.den) := by
  obtain ⟨_, _, _, _, _, _, _, _, rfl, h1⟩ := h1
  obtain ⟨_, _, _, _, _, _, _, _, rfl, h2⟩ := h2
  exact crossR h1 h2 hn1 hn2
set_option maxHeartbeats 800000 in
set_option maxRecDepth 8000 in
theorem cmpR {u v : Value} {p q : Rat} {w : World} {k m : Nat} (h1 : RV w u p) (h2 : RV w v q) (s1 : Sz k p) (s2 : Sz m q) (hk : k + m ≤ 100000000) :
    Calls Tryz.prog 11 #[u, v] w fun e w' => e = .returned (.int .i64 (cmpQ p q)) ∧ Ext w w' := by
  have l1 := s1.x s2
  have l2 := s1.y s2
  have HC := Lib.hid (fun W (he : Ext w W) => crossV (h1.ext he) (h2.ext he) (s1.mono (by omega)) (s2.mono (by omega)))
  have H1 := Lib.hid (fun W x y (hx : IV W x (p.num * q.den)) (hy : IV W y (q.num * p.den)) => cmpV hx hy (by omega) (by omega))
  obtain ⟨b1, A1, n1, c1, b1', A1', n1', c1', rfl, h1⟩ := h1
  obtain ⟨b2, A2, n2, c2, b2', A2', n2', c2', rfl, h2⟩ := h2
  have hE := (Ext.alloc w (.cells #[.bool b1, .slice A1 n1 c1, .bool b1', .slice A1' n1' c1'] 29)).trans (Ext.alloc _ (.cells #[.bool b2, .slice A2 n2 c2, .bool b2', .slice A2' n2' c2'] 29))
  clear h1 h2 l1 l2 s1 s2 hk
  go_enter Tryz.func11, Tryz.ntmps11
  go_wp2_with fail
  refine (HC.out _ hE).mono ?_
  rintro e w1 ⟨x, y, d, rfl, hE1, ⟨a1, A3, n3, c3, rfl, g1⟩, ⟨a2, A4, n4, c4, rfl, g2⟩, ⟨a3, A5, n5, c5, rfl, g3⟩⟩
  have hE2 := ((Ext.alloc w1 (.cells #[.bool a1, .slice A3 n3 c3] 27)).trans (Ext.alloc _ (.cells #[.bool a2, .slice A4 n4 c4] 27))).trans (Ext.alloc _ (.cells #[.bool a3, .slice A5 n5 c5] 27))
  have H2 := Lib.hid (H1.out _ _ _ ⟨_, _, _, _, rfl, g1.ext hE2⟩ ⟨_, _, _, _, rfl, g2.ext hE2⟩)
  clear g1 g2 g3 HC H1
  go_wp2_with fail
  refine H2.out.mono ?_
  rintro e w2 ⟨rfl, hE3⟩
  go_wp2
  go_ret
  exact ⟨ret_eq rfl, ((hE.trans hE1).trans hE2).trans hE3⟩
set_option maxHeartbeats 800000 in
set_option maxRecDepth 8000 in
theorem addR {u v : Value} {p q : Rat} {w : World} {k m : Nat} (h1 : RV w u p) (h2 : RV w v q) (s1 : Sz k p) (s2 : Sz m q) (hk : k + m ≤ 100000000) :
    Calls Tryz.prog 13 #[u, v] w fun e w' => ∃ v, e = .returned v ∧ Ext w w' ∧ RV w' v (p + q) := by
  have l1 := s1.x s2
  have l2 := s1.y s2
  have l3 := s1.d s2
  have HC := Lib.hid (fun W (he : Ext w W) => crossV (h1.ext he) (h2.ext he) (s1.mono (by omega)) (s2.mono (by omega)))
  have l4 := LZ_add (p.num * q.den) (q.num * p.den)
  have H1 := Lib.hid (fun W x y (hx : IV W x (p.num * q.den)) (hy : IV W y (q.num * p.den)) => addV hx hy (by omega) (by omega))
  have H2 := Lib.hid (fun W x y (hx : IV W x (p.num * q.den + q.num * p.den)) (hy : IV W y ((p.den : Int) * q.den)) => lowV hx hy (by omega) (by omega) (den_ne p q))
  rw [add_def] at H2
  clear l4
  obtain ⟨b1, A1, n1, c1, b1', A1', n1', c1', rfl, h1⟩ := h1
  obtain ⟨b2, A2, n2, c2, b2', A2', n2', c2', rfl, h2⟩ := h2
  obtain ⟨O1, hO1⟩ : ∃ O, O = Obj.cells #[.bool b1, .slice A1 n1 c1, .bool b1', .slice A1' n1' c1'] 29 := ⟨_, rfl⟩
  obtain ⟨O2, hO2⟩ : ∃ O, O = Obj.cells #[.bool b2, .slice A2 n2 c2, .bool b2', .slice A2' n2' c2'] 29 := ⟨_, rfl⟩
  obtain ⟨O3, hO3⟩ : ∃ O, O = Obj.cells #[.bool false, .slice none 0 0, .bool false, .slice none 0 0] 29 := ⟨_, rfl⟩
  have hE := ((Ext.alloc w O1).trans (Ext.alloc _ O2)).trans (Ext.alloc _ O3)
  have x0 := ((Box.new w 29 #[.bool b1, .slice A1 n1 c1, .bool b1', .slice A1' n1' c1']).alloc O2).alloc O3
  have x1 := (Box.at1 (w := w) (o := O1) (t := 29) (cs := #[.bool b2, .slice A2 n2 c2, .bool b2', .slice A2' n2' c2'])).alloc O3
  have x2 := Box.at2 (w := w) (o := O1) (o' := O2) (t := 29) (cs := #[.bool false, .slice none 0 0, .bool false, .slice none 0 0])
  rw [← hO1] at x0
  rw [← hO2] at x1
  rw [← hO3] at x2
  rw [hO1, hO2, hO3] at hE x0 x1 x2
  clear h1 h2 l1 l2 l3 s1 s2 hk hO1 hO2 hO3
  go_enter Tryz.func13, Tryz.ntmps13
  go_wp2_with fail
  refine (HC.out _ hE).mono ?_
  rintro e w1 ⟨x, y, d, rfl, hE1, ⟨a1, A3, n3, c3, rfl, g1⟩, ⟨a2, A4, n4, c4, rfl, g2⟩, ⟨a3, A5, n5, c5, rfl, g3⟩⟩
  replace x2 := x2.ext hE1
  replace hE := hE.trans hE1
  go_wp2_with fail
  apply wp_region_par' 5 (by kernel_rfl) (by kernel_rfl) rfl
  simp only [List.take_succ_cons, List.take_zero, List.drop_succ_cons, List.drop_zero]
  generalize hW : World.drew _ = W
  obtain ⟨P1, hP1⟩ : ∃ O, O = Obj.cells #[.bool a1, .slice A3 n3 c3] 27 := ⟨_, rfl⟩
  obtain ⟨P2, hP2⟩ : ∃ O, O = Obj.cells #[.bool a2, .slice A4 n4 c4] 27 := ⟨_, rfl⟩
  obtain ⟨P3, hP3⟩ : ∃ O, O = Obj.cells #[.bool a3, .slice A5 n5 c5] 27 := ⟨_, rfl⟩
  have hEW : Ext w1 W := by rw [← hW]; exact (((Ext.alloc w1 _).trans (Ext.alloc _ _)).trans (Ext.alloc _ _)).trans (Ext.drew _)
  have y0 : Box W w1.heap.size 27 #[.bool a1, .slice A3 n3 c3] := by rw [← hW, ← hP2, ← hP3]; exact ((Box.new w1 _ _).alloc P2).alloc P3
  have y1 : Box W (w1.heap.size + 1) 27 #[.bool a2, .slice A4 n4 c4] := by rw [← hW, ← hP1, ← hP3]; exact (Box.at1 (w := w1) (o := P1)).alloc P3
  have y2 : Box W (w1.heap.size + 1 + 1) 27 #[.bool a3, .slice A5 n5 c5] := by rw [← hW, ← hP1, ← hP2]; exact Box.at2 (w := w1) (o := P1) (o' := P2)
  replace x2 := x2.ext hEW
  replace hE := hE.trans hEW
  replace g1 : IV W _ _ := ⟨_, _, _, _, rfl, g1.ext hEW⟩
  replace g2 : IV W _ _ := ⟨_, _, _, _, rfl, g2.ext hEW⟩
  replace g3 : IV W _ _ := ⟨_, _, _, _, rfl, g3.ext hEW⟩
  clear hW hEW hP1 hP2 hP3 x0 x1 HC hE1
  have z0 := y0.lcell
  have z1 := y1.lcell
  have z2 := y2.lcell
  iterate 2
    refine parW_step rfl (fun K hK => ?_)
    apply Exists.intro
    refine ⟨fun z => ?_, ?_⟩
    focus
      go_simp
      first
        | rfl
        | fail
    go_simp
    refine hK _ ?_
    clear hK K
  refine parW_rel rfl (IV.stable (p.num * q.den + q.num * p.den)) (fun x => ?_) ?_
  · have hc := H1.out x.val _ _ (g1.ext x.prop) (g2.ext x.prop)
    simp only [Giv]
    go_simp
    exact calls_rel hc
  iterate 1
    refine parW_step rfl (fun K hK => ?_)
    apply Exists.intro
    refine ⟨fun z => ?_, ?_⟩
    focus
      go_simp
      first
        | rfl
        | fail
    go_simp
    refine hK _ ?_
    clear hK K
  refine parW_rel rfl (RV.stable (p + q)) (fun x => ?_) ?_
  · intro v1 hv1
    have k1 := hv1 (show Nat.testBit _ _ = true from by kernel_rfl)
    have hc := H2.out x.val _ _ k1 (g3.ext x.prop)
    simp only [Giv]
    go_simp
    exact calls_rel hc
  refine parW_fin (fun z => ?_)
  rintro v1 o1 v2 o2 hp
  simp only [Act.put, List.setIfInBounds_toArray, List.set_cons_succ, List.set_cons_zero]
  obtain ⟨b, A', n', c', b', A'', n'', c'', rfl, hEf, gf⟩ := RV.put o2 (x2.later z) (by omega) (hE.trans z.prop)
  have c6 := (x2.later z).cell
  have f6 := (x2.later z).frozen
  clear o1 o2 hp z0 z1 z2 H1 H2 x2 y0 y1 y2 g1 g2 g3
  generalize z.val = Z at *
  go_wp2
  exact bodyPost_ret (v := .agg #[.bool b, .slice A' n' c', .bool b', .slice A'' n'' c'']) (by simp [results, Tryz.results13, go_sem, c6, f6]) rfl ⟨_, rfl, hEf, gf⟩
set_option maxHeartbeats 800000 in
set_option maxRecDepth 8000 in
theorem subR {u v : Value} {p q : Rat} {w : World} {k m : Nat} (h1 : RV w u p) (h2 : RV w v q) (s1 : Sz k p) (s2 : Sz m q) (hk : k + m ≤ 100000000) :
    Calls Tryz.prog 43 #[u, v] w fun e w' => ∃ v, e = .returned v ∧ Ext w w' ∧ RV w' v (p - q) := by
  have l1 := s1.x s2
  have l2 := s1.y s2
  have l3 := s1.d s2
  have HC := Lib.hid (fun W (he : Ext w W) => crossV (h1.ext he) (h2.ext he) (s1.mono (by omega)) (s2.mono (by omega)))
  have l4 := LZ_sub (p.num * q.den) (q.num * p.den)
  have H1 := Lib.hid (fun W x y (hx : IV W x (p.num * q.den)) (hy : IV W y (q.num * p.den)) => subV hx hy (by omega) (by omega))
  have H2 := Lib.hid (fun W x y (hx : IV W x (p.num * q.den - q.num * p.den)) (hy : IV W y ((p.den : Int) * q.den)) => lowV hx hy (by omega) (by omega) (den_ne p q))
  rw [sub_def] at H2
  clear l4
  obtain ⟨b1, A1, n1, c1, b1', A1', n1', c1', rfl, h1⟩ := h1
  obtain ⟨b2, A2, n2, c2, b2', A2', n2', c2', rfl, h2⟩ := h2
  obtain ⟨O1, hO1⟩ : ∃ O, O = Obj.cells #[.bool b1, .slice A1 n1 c1, .bool b1', .slice A1' n1' c1'] 29 := ⟨_, rfl⟩
  obtain ⟨O2, hO2⟩ : ∃ O, O = Obj.cells #[.bool b2, .slice A2 n2 c2, .bool b2', .slice A2' n2' c2'] 29 := ⟨_, rfl⟩
  obtain ⟨O3, hO3⟩ : ∃ O, O = Obj.cells #[.bool false, .slice none 0 0, .bool false, .slice none 0 0] 29 := ⟨_, rfl⟩
  have hE := ((Ext.alloc w O1).trans (Ext.alloc _ O2)).trans (Ext.alloc _ O3)
  have x0 := ((Box.new w 29 #[.bool b1, .slice A1 n1 c1, .bool b1', .slice A1' n1' c1']).alloc O2).alloc O3
  have x1 := (Box.at1 (w := w) (o := O1) (t := 29) (cs := #[.bool b2, .slice A2 n2 c2, .bool b2', .slice A2' n2' c2'])).alloc O3
  have x2 := Box.at2 (w := w) (o := O1) (o' := O2) (t := 29) (cs := #[.bool false, .slice none 0 0, .bool false, .slice none 0 0])
  rw [← hO1] at x0
  rw [← hO2] at x1
  rw [← hO3] at x2
  rw [hO1, hO2, hO3] at hE x0 x1 x2
  clear h1 h2 l1 l2 l3 s1 s2 hk hO1 hO2 hO3
  go_enter Tryz.func43, Tryz.ntmps43
  go_wp2_with fail
  refine (HC.out _ hE).mono ?_
  rintro e w1 ⟨x, y, d, rfl, hE1, ⟨a1, A3, n3, c3, rfl, g1⟩, ⟨a2, A4, n4, c4, rfl, g2⟩, ⟨a3, A5, n5, c5, rfl, g3⟩⟩
  replace x2 := x2.ext hE1
  replace hE := hE.trans hE1
  go_wp2_with fail
  apply wp_region_par' 5 (by kernel_rfl) (by kernel_rfl) rfl
  simp only [List.take_succ_cons, List.take_zero, List.drop_succ_cons, List.drop_zero]
  generalize hW : World.drew _ = W
  obtain ⟨P1, hP1⟩ : ∃ O, O = Obj.cells #[.bool a1, .slice A3 n3 c3] 27 := ⟨_, rfl⟩
  obtain ⟨P2, hP2⟩ : ∃ O, O = Obj.cells #[.bool a2, .slice A4 n4 c4] 27 := ⟨_, rfl⟩
  obtain ⟨P3, hP3⟩ : ∃ O, O = Obj.cells #[.bool a3, .slice A5 n5 c5] 27 := ⟨_, rfl⟩
  have hEW : Ext w1 W := by rw [← hW]; exact (((Ext.alloc w1 _).trans (Ext.alloc _ _)).trans (Ext.alloc _ _)).trans (Ext.drew _)
  have y0 : Box W w1.heap.size 27 #[.bool a1, .slice A3 n3 c3] := by rw [← hW, ← hP2, ← hP3]; exact ((Box.new w1 _ _).alloc P2).alloc P3
  have y1 : Box W (w1.heap.size + 1) 27 #[.bool a2, .slice A4 n4 c4] := by rw [← hW, ← hP1, ← hP3]; exact (Box.at1 (w := w1) (o := P1)).alloc P3
  have y2 : Box W (w1.heap.size + 1 + 1) 27 #[.bool a3, .slice A5 n5 c5] := by rw [← hW, ← hP1, ← hP2]; exact Box.at2 (w := w1) (o := P1) (o' := P2)
  replace x2 := x2.ext hEW
  replace hE := hE.trans hEW
  replace g1 : IV W _ _ := ⟨_, _, _, _, rfl, g1.ext hEW⟩
  replace g2 : IV W _ _ := ⟨_, _, _, _, rfl, g2.ext hEW⟩
  replace g3 : IV W _ _ := ⟨_, _, _, _, rfl, g3.ext hEW⟩
  clear hW hEW hP1 hP2 hP3 x0 x1 HC hE1
  have z0 := y0.lcell
  have z1 := y1.lcell
  have z2 := y2.lcell
  iterate 2
    refine parW_step rfl (fun K hK => ?_)
    apply Exists.intro
    refine ⟨fun z => ?_, ?_⟩
    focus
      go_simp
      first
        | rfl
        | fail
    go_simp
    refine hK _ ?_
    clear hK K
  refine parW_rel rfl (IV.stable (p.num * q.den - q.num * p.den)) (fun x => ?_) ?_
  · have hc := H1.out x.val _ _ (g1.ext x.prop) (g2.ext x.prop)
    simp only [Giv]
    go_simp
    exact calls_rel hc
  iterate 1
    refine parW_step rfl (fun K hK => ?_)
    apply Exists.intro
    refine ⟨fun z => ?_, ?_⟩
    focus
      go_simp
      first
        | rfl
        | fail
    go_simp
    refine hK _ ?_
    clear hK K
  refine parW_rel rfl (RV.stable (p - q)) (fun x => ?_) ?_
  · intro v1 hv1
    have k1 := hv1 (show Nat.testBit _ _ = true from by kernel_rfl)
    have hc := H2.out x.val _ _ k1 (g3.ext x.prop)
    simp only [Giv]
    go_simp
    exact calls_rel hc
  refine parW_fin (fun z => ?_)
  rintro v1 o1 v2 o2 hp
  simp only [Act.put, List.setIfInBounds_toArray, List.set_cons_succ, List.set_cons_zero]
  obtain ⟨b, A', n', c', b', A'', n'', c'', rfl, hEf, gf⟩ := RV.put o2 (x2.later z) (by omega) (hE.trans z.prop)
  have c6 := (x2.later z).cell
  have f6 := (x2.later z).frozen
  clear o1 o2 hp z0 z1 z2 H1 H2 x2 y0 y1 y2 g1 g2 g3
  generalize z.val = Z at *
  go_wp2
  exact bodyPost_ret (v := .agg #[.bool b, .slice A' n' c', .bool b', .slice A'' n'' c'']) (by simp [results, Tryz.results43, go_sem, c6, f6]) rfl ⟨_, rfl, hEf, gf⟩
set_option maxHeartbeats 800000 in
set_option maxRecDepth 8000 in
theorem midR {u v : Value} {p q : Rat} {w : World} {k m : Nat} (h1 : RV w u p) (h2 : RV w v q) (s1 : Sz k p) (s2 : Sz m q) (hk : k + m ≤ 100000000) :
    Calls Tryz.prog 42 #[u, v] w fun e w' => ∃ v, e = .returned v ∧ Ext w w' ∧ RV w' v ((p + q) / 2) := by
  have l1 := s1.x s2
  have l2 := s1.y s2
  have l3 := s1.d s2
  have HC := Lib.hid (fun W (he : Ext w W) => crossV (h1.ext he) (h2.ext he) (s1.mono (by omega)) (s2.mono (by omega)))
  have l4 := LZ_add (p.num * q.den) (q.num * p.den)
  have l5 := LZ_add ((p.den : Int) * q.den) ((p.den : Int) * q.den)
  have H1 := Lib.hid (fun W x y (hx : IV W x (p.num * q.den)) (hy : IV W y (q.num * p.den)) => addV hx hy (by omega) (by omega))
  have H3 := Lib.hid (fun W x (hx : IV W x ((p.den : Int) * q.den)) => addV hx hx (by omega) (by omega))
  have H2 := Lib.hid (fun W x y (hx : IV W x (p.num * q.den + q.num * p.den)) (hy : IV W y ((p.den : Int) * q.den + (p.den : Int) * q.den)) => lowV hx hy (by omega) (by omega) (dd_ne p q))
  rw [mid_def] at H2
  clear l4 l5
  obtain ⟨b1, A1, n1, c1, b1', A1', n1', c1', rfl, h1⟩ := h1
  obtain ⟨b2, A2, n2, c2, b2', A2', n2', c2', rfl, h2⟩ := h2
  obtain ⟨O1, hO1⟩ : ∃ O, O = Obj.cells #[.bool b1, .slice A1 n1 c1, .bool b1', .slice A1' n1' c1'] 29 := ⟨_, rfl⟩
  obtain ⟨O2, hO2⟩ : ∃ O, O = Obj.cells #[.bool b2, .slice A2 n2 c2, .bool b2', .slice A2' n2' c2'] 29 := ⟨_, rfl⟩
  obtain ⟨O3, hO3⟩ : ∃ O, O = Obj.cells #[.bool false, .slice none 0 0, .bool false, .slice none 0 0] 29 := ⟨_, rfl⟩
  have hE := ((Ext.alloc w O1).trans (Ext.alloc _ O2)).trans (Ext.alloc _ O3)
  have x0 := ((Box.new w 29 #[.bool b1, .slice A1 n1 c1, .bool b1', .slice A1' n1' c1']).alloc O2).alloc O3
  have x1 := (Box.at1 (w := w) (o := O1) (t := 29) (cs := #[.bool b2, .slice A2 n2 c2, .bool b2', .slice A2' n2' c2'])).alloc O3
  have x2 := Box.at2 (w := w) (o := O1) (o' := O2) (t := 29) (cs := #[.bool false, .slice none 0 0, .bool false, .slice none 0 0])
  rw [← hO1] at x0
  rw [← hO2] at x1
  rw [← hO3] at x2
  rw [hO1, hO2, hO3] at hE x0 x1 x2
  clear h1 h2 l1 l2 l3 s1 s2 hk hO1 hO2 hO3
  go_enter Tryz.func42, Tryz.ntmps42
  go_wp2_with fail
  refine (HC.out _ hE).mono ?_
  rintro e w1 ⟨x, y, d, rfl, hE1, ⟨a1, A3, n3, c3, rfl, g1⟩, ⟨a2, A4, n4, c4, rfl, g2⟩, ⟨a3, A5, n5, c5, rfl, g3⟩⟩
  replace x2 := x2.ext hE1
  replace hE := hE.trans hE1
  go_wp2_with fail
  apply wp_region_par' 7 (by kernel_rfl) (by kernel_rfl) rfl
  simp only [List.take_succ_cons, List.take_zero, List.drop_succ_cons, List.drop_zero]
  generalize hW : World.drew _ = W
  obtain ⟨P1, hP1⟩ : ∃ O, O = Obj.cells #[.bool a1, .slice A3 n3 c3] 27 := ⟨_, rfl⟩
  obtain ⟨P2, hP2⟩ : ∃ O, O = Obj.cells #[.bool a2, .slice A4 n4 c4] 27 := ⟨_, rfl⟩
  obtain ⟨P3, hP3⟩ : ∃ O, O = Obj.cells #[.bool a3, .slice A5 n5 c5] 27 := ⟨_, rfl⟩
  have hEW : Ext w1 W := by rw [← hW]; exact (((Ext.alloc w1 _).trans (Ext.alloc _ _)).trans (Ext.alloc _ _)).trans (Ext.drew _)
  have y0 : Box W w1.heap.size 27 #[.bool a1, .slice A3 n3 c3] := by rw [← hW, ← hP2, ← hP3]; exact ((Box.new w1 _ _).alloc P2).alloc P3
  have y1 : Box W (w1.heap.size + 1) 27 #[.bool a2, .slice A4 n4 c4] := by rw [← hW, ← hP1, ← hP3]; exact (Box.at1 (w := w1) (o := P1)).alloc P3
  have y2 : Box W (w1.heap.size + 1 + 1) 27 #[.bool a3, .slice A5 n5 c5] := by rw [← hW, ← hP1, ← hP2]; exact Box.at2 (w := w1) (o := P1) (o' := P2)
  replace x2 := x2.ext hEW
  replace hE := hE.trans hEW
  replace g1 : IV W _ _ := ⟨_, _, _, _, rfl, g1.ext hEW⟩
  replace g2 : IV W _ _ := ⟨_, _, _, _, rfl, g2.ext hEW⟩
  replace g3 : IV W _ _ := ⟨_, _, _, _, rfl, g3.ext hEW⟩
  clear hW hEW hP1 hP2 hP3 x0 x1 HC hE1
  have z0 := y0.lcell
  have z1 := y1.lcell
  have z2 := y2.lcell
  iterate 2
    refine parW_step rfl (fun K hK => ?_)
    apply Exists.intro
    refine ⟨fun z => ?_, ?_⟩
    focus
      go_simp
      first
        | rfl
        | fail
    go_simp
    refine hK _ ?_
    clear hK K
  refine parW_rel rfl (IV.stable (p.num * q.den + q.num * p.den)) (fun x => ?_) ?_
  · have hc := H1.out x.val _ _ (g1.ext x.prop) (g2.ext x.prop)
    simp only [Giv]
    go_simp
    exact calls_rel hc
  iterate 2
    refine parW_step rfl (fun K hK => ?_)
    apply Exists.intro
    refine ⟨fun z => ?_, ?_⟩
    focus
      go_simp
      first
        | rfl
        | fail
    go_simp
    refine hK _ ?_
    clear hK K
  refine parW_rel rfl (IV.stable ((p.den : Int) * q.den + (p.den : Int) * q.den)) (fun x => ?_) ?_
  · intro v1 hv1
    have hc := H3.out x.val _ (g3.ext x.prop)
    simp only [Giv]
    go_simp
    exact calls_rel hc
  refine parW_rel rfl (RV.stable ((p + q) / 2)) (fun x => ?_) ?_
  · intro v1 hv1 v2 hv2
    have k1 := hv1 (show Nat.testBit _ _ = true from by kernel_rfl)
    have k2 := hv2 (show Nat.testBit _ _ = true from by kernel_rfl)
    have hc := H2.out x.val _ _ k1 k2
    simp only [Giv]
    go_simp
    exact calls_rel hc
  refine parW_fin (fun z => ?_)
  rintro v1 o1 v2 o2 v3 o3 hp
  simp only [Act.put, List.setIfInBounds_toArray, List.set_cons_succ, List.set_cons_zero]
  obtain ⟨b, A', n', c', b', A'', n'', c'', rfl, hEf, gf⟩ := RV.put o3 (x2.later z) (by omega) (hE.trans z.prop)
  have c6 := (x2.later z).cell
  have f6 := (x2.later z).frozen
  clear o1 o2 o3 H3 hp z0 z1 z2 H1 H2 x2 y0 y1 y2 g1 g2 g3
  generalize z.val = Z at *
  go_wp2
  exact bodyPost_ret (v := .agg #[.bool b, .slice A' n' c', .bool b', .slice A'' n'' c'']) (by simp [results, Tryz.results42, go_sem, c6, f6]) rfl ⟨_, rfl, hEf, gf⟩
end Go.Proofs.YtodefmfgoehkhaaGreat
