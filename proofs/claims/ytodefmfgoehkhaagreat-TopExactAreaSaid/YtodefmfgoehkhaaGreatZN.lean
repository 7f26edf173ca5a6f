/- Texts put together: TxA, TxB, TxC. -/
import Derived.Test.YtodefmfgoehkhaaGreatTrMul
import Derived.Test.YtodefmfgoehkhaaGreatZM
import Derived.Test.YtodefmfgoehkhaaGreatZC
/- intersect: may, by, along, YAt. -/
set_option linter.unusedVariables false
set_option linter.unusedSimpArgs false
namespace Go.Proofs.YtodefmfgoehkhaaGreat
open Go.RowKit Go.Par Go.TN
open Go.TA (E2 ratI alongR yAtR xAt crossI subI segN segT segS)

/-! ## sizes of what is made of coordinates -/
def InC (p : P2) : Prop := -1048576 ≤ p.1 ∧ p.1 ≤ 1048576 ∧ -1048576 ≤ p.2 ∧ p.2 ≤ 1048576
theorem InC.valid {p : P2} (h : InC p) : validS p = true := by
  obtain ⟨h1, h2, h3, h4⟩ := h
  simp [validS, inB, h1, h2, h3, h4]
theorem InC.of {p : P2} (h : validS p = true) : InC p := by
  simp only [validS, inB, Bool.and_eq_true, decide_eq_true_eq] at h
  exact ⟨h.1.1, h.1.2, h.2.1, h.2.2⟩
theorem Sz.coord {z : Int} (h1 : -9223372036854775808 ≤ z) (h2 : z ≤ 9223372036854775807) : Sz 2 (z : Rat) := Sz.int (L_i64 h1 h2) (by omega)
theorem ratI_eq (n d : Int) : Rat.divInt n d = ratI n d := Rat.divInt_eq_div n d
theorem Sz.rat {n d : Int} (h1 : -9223372036854775808 ≤ n) (h2 : n ≤ 9223372036854775807) (h3 : -9223372036854775808 ≤ d) (h4 : d ≤ 9223372036854775807) (hd : d ≠ 0) : Sz 2 (ratI n d) := by
  rw [← ratI_eq]
  exact Sz.low hd (L_i64 h1 h2) (L_i64 h3 h4)
theorem Sz.along {a b : Int} {t : Rat} {k : Nat} (ha : -1048576 ≤ a ∧ a ≤ 1048576) (hb : -1048576 ≤ b ∧ b ≤ 1048576) (ht : Sz k t) : Sz (k + 5) (alongR a b t) := by
  have h1 := (Sz.coord (z := a) (by omega) (by omega)).add (ht.mul (Sz.coord (z := b - a) (by omega) (by omega)))
  exact h1.mono (by omega)
theorem Sz.yAt {e : E2} {x : Int} (h1 : InC e.1) (h2 : InC e.2) (hx : -1048576 ≤ x ∧ x ≤ 1048576) (hne : e.1.1 ≠ e.2.1) : Sz 7 (yAtR e x) := by
  obtain ⟨a1, a2, a3, a4⟩ := h1
  obtain ⟨b1, b2, b3, b4⟩ := h2
  exact Sz.along ⟨a3, a4⟩ ⟨b3, b4⟩ (Sz.rat (by omega) (by omega) (by omega) (by omega) (by omega))
/-! ## the walks -/
theorem mayC_any (x y : Int) (w : World) :
    Calls Tryz.prog 98 #[.agg #[.int .i64 x, .int .i64 y]] w fun e w' => e = .returned (.bool (!validS (x, y))) ∧ Ext w w' := by
  go_enter Tryz.func98, Tryz.ntmps98
  go_wp2_with (go_at_call 28; refine (valid_any _ _ _).mono ?_; rintro e w1 ⟨rfl, hE⟩)
  go_ret
  exact ⟨rfl, (Ext.alloc _ _).trans hE⟩
theorem mayC_call (args : Array Value) (w : World) : (callFunc 98 args).run Tryz.prog w = .ok (.enter 98 args) w := by kernel_rfl
set_option maxHeartbeats 400000 in
theorem may_any (l : List P2) (A : Option Addr) (n c : Nat) (w : World) (hn : l.length = n) (hc : n ≤ 1000000) (hl : PtsAt w A l) (hv : ∀ p ∈ l, InC p) :
    Calls Tryz.prog 70 #[.slice A n c] w fun e w' => e = .returned (.bool true) ∧ Ext w w' := by
  subst hn
  have H := Lib.hid (containsFunc_any 98 #[] (fun p => !validS p) l A c w (by omega) hl mayC_call (fun x y w1 _ _ => mayC_any x y w1))
  have hf : l.any (fun p => !validS p) = false := by
    rw [List.any_eq_false]
    intro p hp
    simp [(hv p hp).valid]
  rw [hf] at H
  clear hv hl hf
  generalize l.length = n at *
  go_enter Tryz.func70, Tryz.ntmps70
  go_wp2_with fail
  refine H.out.mono ?_
  rintro e w1 ⟨rfl, hE⟩
  go_wp2
  go_ret
  exact ⟨rfl, hE⟩
set_option maxHeartbeats 400000 in
theorem by_any (n d : Int) (w : World) (h1 : -9223372036854775808 ≤ n) (h2 : n ≤ 9223372036854775807) (h3 : -9223372036854775808 ≤ d) (h4 : d ≤ 9223372036854775807) (hd : d ≠ 0) :
    Calls Tryz.prog 102 #[.int .i64 n, .int .i64 d] w fun e w' => ∃ v, e = .returned v ∧ Ext w w' ∧ RV w' v (ratI n d) := by
  have hE := Ext.alloc w (.cells #[.bool false, .slice none 0 0, .bool false, .slice none 0 0] 29)
  have x0 := Box.new w 29 #[.bool false, .slice none 0 0, .bool false, .slice none 0 0]
  have H := Lib.hid (fun W => fromIntsV n d W h1 h2 h3 h4 hd)
  rw [ratI_eq] at H
  clear h1 h2 h3 h4 hd
  go_enter Tryz.func102, Tryz.ntmps102
  go_wp2_with fail
  refine (H.out _).mono ?_
  rintro e w1 ⟨v, rfl, hE1, b, A, n, c, b', A', n', c', rfl, g1⟩
  have hE2 := Ext.alloc w1 (.cells #[.bool b, .slice A n c, .bool b', .slice A' n' c'] 29)
  have x1 := (x0.ext hE1).ext hE2
  have x2 := Box.new w1 29 #[.bool b, .slice A n c, .bool b', .slice A' n' c']
  have hq : RV _ (.agg #[.bool b, .slice A n c, .bool b', .slice A' n' c']) (ratI _ _) := ⟨_, _, _, _, _, _, _, _, rfl, g1.ext hE2⟩
  obtain ⟨k1, k2, k3, k4, k5, k6, k7, k8, e, hEf, gf⟩ := hq.put x1 (Nat.le_refl _) ((hE.trans hE1).trans hE2)
  simp only [Value.agg.injEq, Array.mk.injEq, List.cons.injEq, Value.bool.injEq, Value.slice.injEq, and_true] at e
  obtain ⟨rfl, ⟨rfl, rfl, rfl⟩, rfl, rfl, rfl, rfl⟩ := e
  have c4 := x1.cell
  have f4 := x1.frozen
  have c5 := x2.cell
  clear g1 hq H hE hE1 hE2 x0 x1 x2
  go_wp2
  exact bodyPost_ret (v := .agg #[.bool b, .slice A n c, .bool b', .slice A' n' c']) (by simp [results, Tryz.results102, go_sem, c4, f4]) rfl ⟨_, rfl, hEf, gf⟩
set_option maxHeartbeats 800000 in
set_option maxRecDepth 8000 in
theorem along_any {a b : Int} {u : Value} {t : Rat} {k : Nat} {w : World} (ha : -1048576 ≤ a ∧ a ≤ 1048576) (hb : -1048576 ≤ b ∧ b ≤ 1048576) (ht : RV w u t) (hs : Sz k t) (hk : k ≤ 50000000) :
    Calls Tryz.prog 101 #[.int .i64 a, .int .i64 b, u] w fun e w' => ∃ v, e = .returned v ∧ Ext w w' ∧ RV w' v (alongR a b t) := by
  have s1 := Sz.coord (z := b - a) (by omega) (by omega)
  have s2 := Sz.coord (z := a) (by omega) (by omega)
  have H1 := Lib.hid (fun W => fromIntV a W (by omega) (by omega))
  have H2 := Lib.hid (fun W => fromIntV (b - a) W (by omega) (by omega))
  have H3 := Lib.hid (fun W v (he : Ext w W) (hv : RV W v ((b - a : Int) : Rat)) => mulR (ht.ext he) hv hs s1 (by omega))
  have H4 := Lib.hid (fun W u v (hu : RV W u ((a : Int) : Rat)) (hv : RV W v (t * ((b - a : Int) : Rat))) => addR hu hv s2 (hs.mul s1) (by omega))
  have q1 : IntKind.i64.wrap (b - a) = b - a := IntWalk.i64_in _ (by omega)
  have hal : alongR a b t = ((a : Int) : Rat) + t * ((b - a : Int) : Rat) := rfl
  rw [← hal] at H4
  generalize alongR a b t = r at *
  generalize ((b - a : Int) : Rat) = d at *
  clear hal
  obtain ⟨b1, A1, n1, c1, b1', A1', n1', c1', rfl, ht⟩ := ht
  have hE := (Ext.alloc w (.cells #[.bool b1, .slice A1 n1 c1, .bool b1', .slice A1' n1' c1'] 29)).trans (Ext.alloc _ (.cells #[.bool false, .slice none 0 0, .bool false, .slice none 0 0] 29))
  have x0 := (Box.new w 29 #[.bool b1, .slice A1 n1 c1, .bool b1', .slice A1' n1' c1']).alloc (.cells #[.bool false, .slice none 0 0, .bool false, .slice none 0 0] 29)
  have x1 := Box.at1 (w := w) (o := .cells #[.bool b1, .slice A1 n1 c1, .bool b1', .slice A1' n1' c1'] 29) (t := 29) (cs := #[.bool false, .slice none 0 0, .bool false, .slice none 0 0])
  clear ht ha hb hs s1 s2 hk
  go_enter Tryz.func101, Tryz.ntmps101
  go_wp2_with fail
  apply wp_region_par' 9 (by kernel_rfl) (by kernel_rfl) rfl
  simp only [List.take_succ_cons, List.take_zero, List.drop_succ_cons, List.drop_zero]
  generalize hW : World.drew _ = W
  have hEW : Ext w W := by rw [← hW]; exact hE.trans (Ext.drew _)
  replace x0 : Box W w.heap.size 29 #[.bool b1, .slice A1 n1 c1, .bool b1', .slice A1' n1' c1'] := by rw [← hW]; exact x0.drew
  replace x1 : Box W (w.heap.size + 1) 29 #[.bool false, .slice none 0 0, .bool false, .slice none 0 0] := by rw [← hW]; exact x1.drew
  clear hW
  have z0 := x0.lcell
  iterate 1
    refine parW_step rfl (fun K hK => ?_)
    apply Exists.intro
    refine ⟨fun z => ?_, ?_⟩
    focus
      go_simp
      first
        | rfl
        | fail
    go_simp
    refine hK _ ?_
    clear hK K
  refine parW_rel rfl (RV.stable ((a : Int) : Rat)) (fun x => ?_) ?_
  · have hc := H1.out x.val
    simp only [Giv]
    go_simp
    exact calls_rel hc
  iterate 4
    refine parW_step rfl (fun K hK => ?_)
    apply Exists.intro
    refine ⟨fun z => ?_, ?_⟩
    focus
      go_simp
      first
        | rfl
        | fail
    go_simp
    refine hK _ ?_
    clear hK K
  refine parW_rel rfl (RV.stable d) (fun x => ?_) ?_
  · intro v1 hv1
    have hc := H2.out x.val
    simp only [Giv]
    go_simp
    exact calls_rel hc
  refine parW_rel rfl (RV.stable (t * d)) (fun x => ?_) ?_
  · intro v1 hv1 v2 hv2
    have k2 := hv2 (show Nat.testBit _ _ = true from by kernel_rfl)
    have hc := H3.out x.val _ (hEW.later x) k2
    simp only [Giv]
    go_simp
    exact calls_rel hc
  refine parW_rel rfl (RV.stable (r)) (fun x => ?_) ?_
  · intro v1 hv1 v2 hv2 v3 hv3
    have k1 := hv1 (show Nat.testBit _ _ = true from by kernel_rfl)
    have k3 := hv3 (show Nat.testBit _ _ = true from by kernel_rfl)
    have hc := H4.out x.val _ _ k1 k3
    simp only [Giv]
    go_simp
    exact calls_rel hc
  refine parW_fin (fun z => ?_)
  rintro v1 o1 v2 o2 v3 o3 v4 o4 hp
  simp only [Act.put, List.setIfInBounds_toArray, List.set_cons_succ, List.set_cons_zero]
  obtain ⟨b, A', n', c', b', A'', n'', c'', rfl, hEf, gf⟩ := RV.put o4 (x1.later z) (by omega) (hEW.later z)
  have c6 := (x1.later z).cell
  have f6 := (x1.later z).frozen
  clear o1 o2 o3 o4 hp z0 H1 H2 H3 H4 x0 x1
  generalize z.val = Z at *
  go_wp2
  exact bodyPost_ret (v := .agg #[.bool b, .slice A' n' c', .bool b', .slice A'' n'' c'']) (by simp [results, Tryz.results101, go_sem, c6, f6]) rfl ⟨_, rfl, hEf, gf⟩
end Go.Proofs.YtodefmfgoehkhaaGreat

/- intersect: YAt. -/
set_option linter.unusedVariables false
set_option linter.unusedSimpArgs false
namespace Go.Proofs.YtodefmfgoehkhaaGreat
open Go.RowKit Go.Par Go.TN
open Go.TA (E2 ratI alongR yAtR xAt crossI subI segN segT segS)

abbrev ptV (p : P2) : Value := .agg #[.int .i64 p.1, .int .i64 p.2]
abbrev zeroR : Value := .agg #[.bool false, .slice none 0 0, .bool false, .slice none 0 0]
def yOk (a b : P2) (x : Int) : Prop := a.1 ≠ b.1 ∧ min a.1 b.1 ≤ x ∧ x ≤ max a.1 b.1
/-- a number, or none -/
def OptR (w : World) (v : Value) (ok : Bool) (c : Prop) (q : Rat) : Prop := (c ∧ ok = true ∧ RV w v q) ∨ (¬ c ∧ ok = false ∧ v = zeroR)
/-- what a function hands back that finds a number or none -/
def OptPost (w : World) (c : Prop) (q : Rat) (e : Ending) (w' : World) : Prop := ∃ v ok, e = .returned (.tuple #[v, .bool ok]) ∧ Ext w w' ∧ OptR w' v ok c q
theorem two_pts {w : World} {g : Nat} {a b : P2} {t : TypeId} (h : Box w g t #[.int .i64 a.1, .int .i64 a.2, .int .i64 b.1, .int .i64 b.2]) : PtsAt w (some ⟨g, 0, none⟩) [a, b] := ptsOfBox h rfl
set_option maxHeartbeats 800000 in
set_option maxRecDepth 8000 in
theorem YAt_any {a1 a2 b1 b2 x : Int} {w : World} (ha : InC (a1, a2)) (hb : InC (b1, b2)) (hx : -1048576 ≤ x ∧ x ≤ 1048576) :
    Calls Tryz.prog 73 #[ptV (a1, a2), ptV (b1, b2), .int .i64 x] w (OptPost w (yOk (a1, a2) (b1, b2) x) (yAtR ((a1, a2), (b1, b2)) x)) := by
  obtain ⟨O1, hO1⟩ : ∃ O, O = Obj.cells #[.int .i64 a1, .int .i64 a2] 49 := ⟨_, rfl⟩
  obtain ⟨O2, hO2⟩ : ∃ O, O = Obj.cells #[.int .i64 b1, .int .i64 b2] 49 := ⟨_, rfl⟩
  obtain ⟨O3, hO3⟩ : ∃ O, O = Obj.cells #[.bool false, .slice none 0 0, .bool false, .slice none 0 0] 29 := ⟨_, rfl⟩
  obtain ⟨O4, hO4⟩ : ∃ O, O = Obj.cells #[.int .i64 a1, .int .i64 a2, .int .i64 b1, .int .i64 b2] 49 := ⟨_, rfl⟩
  have hE := (((Ext.alloc w O1).trans (Ext.alloc _ O2)).trans (Ext.alloc _ O3)).trans (Ext.alloc _ O4)
  have x0 := (((Box.new w 49 #[.int .i64 a1, .int .i64 a2]).alloc O2).alloc O3).alloc O4
  have x1 := ((Box.at1 (w := w) (o := O1) (t := 49) (cs := #[.int .i64 b1, .int .i64 b2])).alloc O3).alloc O4
  have x2 := (Box.at2 (w := w) (o := O1) (o' := O2) (t := 29) (cs := #[.bool false, .slice none 0 0, .bool false, .slice none 0 0])).alloc O4
  have x3 := Box.at3 (w := w) (o := O1) (o' := O2) (o'' := O3) (t := 49) (cs := #[.int .i64 a1, .int .i64 a2, .int .i64 b1, .int .i64 b2])
  rw [← hO1] at x0
  rw [← hO2] at x1
  rw [← hO3] at x2
  rw [← hO4] at x3
  rw [hO1, hO2, hO3, hO4] at hE x0 x1 x2 x3
  have HM := Lib.hid (may_any [(a1, a2), (b1, b2)] _ 2 2 _ rfl (by omega) (two_pts (a := (a1, a2)) (b := (b1, b2)) x3) (by
    intro p hp
    simp only [List.mem_cons, List.not_mem_nil, or_false] at hp
    rcases hp with rfl | rfl
    · exact ha
    · exact hb))
  clear hO1 hO2 hO3 hO4 x3
  go_enter Tryz.func73, Tryz.ntmps73
  go_wp2_with fail
  refine HM.out.mono ?_
  rintro e w1 ⟨rfl, hE1⟩
  replace hE := hE.trans hE1
  replace x0 := x0.ext hE1
  replace x1 := x1.ext hE1
  replace x2 := x2.ext hE1
  clear HM hE1
  have c0 := x0.cell
  have c1 := x1.cell
  have c2 := x2.cell
  have f2 := x2.frozen
  have hsf := fun (u0 u1 u2 u3 : Value) => hE.set4 (b := w.heap.size + 1 + 1) (by omega) (i := 0) (j := 1) (k := 2) (l := 3) u0 u1 u2 u3
  by_cases h0 : a1 = b1
  · subst h0
    go_wp2
    exact bodyPost_ret (v := .tuple #[zeroR, .bool false]) (by simp [results, Tryz.results73, go_sem, c2, f2]) rfl ⟨_, _, rfl, hsf _ _ _ _, .inr ⟨fun h => h.1 rfl, rfl, rfl⟩⟩
  · have d0 : (a1 == b1) = false := by simp [h0]
    have hb1 := Lib.hid (fun W => by_any (x - a1) (b1 - a1) W (by unfold InC at *; omega) (by unfold InC at *; omega) (by unfold InC at *; omega) (by unfold InC at *; omega) (by omega))
    have hs1 : Sz 2 (ratI (x - a1) (b1 - a1)) := Sz.rat (by unfold InC at *; omega) (by unfold InC at *; omega) (by unfold InC at *; omega) (by unfold InC at *; omega) (by omega)
    have hb2 := Lib.hid (fun W u (hu : RV W u (ratI (x - a1) (b1 - a1))) => along_any (a := a2) (b := b2) ⟨ha.2.2.1, ha.2.2.2⟩ ⟨hb.2.2.1, hb.2.2.2⟩ hu hs1 (by omega))
    have q1 : IntKind.i64.wrap (x - a1) = x - a1 := IntWalk.i64_in _ (by unfold InC at *; omega)
    have q2 : IntKind.i64.wrap (b1 - a1) = b1 - a1 := IntWalk.i64_in _ (by unfold InC at *; omega)
    have hy : yAtR ((a1, a2), (b1, b2)) x = alongR a2 b2 (ratI (x - a1) (b1 - a1)) := rfl
    rw [← hy] at hb2
    generalize yAtR ((a1, a2), (b1, b2)) x = r at *
    generalize ratI (x - a1) (b1 - a1) = t at *
    clear hs1 hy ha hb hx
    go_wp2_with fail
    · rename_i h1
      exact bodyPost_ret (v := .tuple #[zeroR, .bool false]) (by simp [results, Tryz.results73, go_sem, c2, f2]) rfl ⟨_, _, rfl, hsf _ _ _ _, .inr ⟨fun h => by have := h.2.1; dsimp only at this; omega, rfl, rfl⟩⟩
    · rename_i h1 h2
      exact bodyPost_ret (v := .tuple #[zeroR, .bool false]) (by simp [results, Tryz.results73, go_sem, c2, f2]) rfl ⟨_, _, rfl, hsf _ _ _ _, .inr ⟨fun h => by have := h.2.2; dsimp only at this; omega, rfl, rfl⟩⟩
    · have HOK := Lib.hid (show yOk (a1, a2) (b1, b2) x from ⟨h0, by dsimp only; omega, by dsimp only; omega⟩)
      clear h0 d0 hsf c0 c1 c2 f2
      apply wp_region_par' 15 (by kernel_rfl) (by kernel_rfl) rfl
      simp only [List.take_succ_cons, List.take_zero, List.drop_succ_cons, List.drop_zero]
      generalize hW : World.drew _ = W
      have hEW : Ext w1 W := by rw [← hW]; exact Ext.drew _
      replace x0 := x0.ext hEW
      replace x1 := x1.ext hEW
      replace x2 := x2.ext hEW
      replace hE := hE.trans hEW
      clear hW hEW
      have z0 := x0.lcell
      have z1 := x1.lcell
      iterate 13
        refine parW_step rfl (fun K hK => ?_)
        apply Exists.intro
        refine ⟨fun z => ?_, ?_⟩
        focus
          go_simp
          first
            | rfl
            | fail
        go_simp
        refine hK _ ?_
        clear hK K
      refine parW_rel rfl (RV.stable t) (fun x => ?_) ?_
      · have hc := hb1.out x.val
        simp only [Giv]
        go_simp
        exact calls_rel hc
      refine parW_rel rfl (RV.stable r) (fun x => ?_) ?_
      · intro v1 hv1
        have k1 := hv1 (show Nat.testBit _ _ = true from by kernel_rfl)
        have hc := hb2.out x.val _ k1
        simp only [Giv]
        go_simp
        exact calls_rel hc
      refine parW_fin (fun z => ?_)
      rintro v1 o1 v2 o2 hp
      simp only [Act.put, List.setIfInBounds_toArray, List.set_cons_succ, List.set_cons_zero]
      obtain ⟨b, A', n', c', b', A'', n'', c'', rfl, hEf, gf⟩ := RV.put o2 (x2.later z) (by omega) (hE.trans z.prop)
      have c6 := (x2.later z).cell
      have f6 := (x2.later z).frozen
      clear o1 o2 hp z0 z1 hb1 hb2 x0 x1 x2
      generalize z.val = Z at *
      go_wp2
      exact bodyPost_ret (v := .tuple #[.agg #[.bool b, .slice A' n' c', .bool b', .slice A'' n'' c''], .bool true]) (by simp [results, Tryz.results73, go_sem, c6, f6]) rfl ⟨_, _, rfl, hEf, .inl ⟨HOK.out, rfl, gf⟩⟩
end Go.Proofs.YtodefmfgoehkhaaGreat

/- intersect: XAt at a height that the edge crosses. -/
set_option linter.unusedVariables false
set_option linter.unusedSimpArgs false
namespace Go.Proofs.YtodefmfgoehkhaaGreat
open Go.RowKit Go.Par Go.TN
open Go.TA (E2 ratI alongR yAtR xAt crosses crossI subI segN segT segS)

theorem Box.of_drew {w W : World} {g : Nat} {t : TypeId} {cs : Array Value} (x : Box w g t cs) (hW : w.drew = W) : Box W g t cs := by rw [← hW]; exact x.drew
theorem Ext.of_drew {w0 w W : World} (x : Ext w0 w) (hW : w.drew = W) : Ext w0 W := by rw [← hW]; exact x.trans (Ext.drew _)
theorem xAt_along (a1 a2 b1 b2 : Int) (y : Rat) : xAt ((a1, a2), (b1, b2)) y = alongR a1 b1 ((y - (a2 : Rat)) * ratI 1 (b2 - a2)) := by
  unfold xAt alongR ratI
  rfl
theorem crosses_facts {a1 a2 b1 b2 : Int} {y : Rat} (h : crosses ((a1, a2), (b1, b2)) y = true) : a2 ≠ b2 ∧ ¬ y < ((min a2 b2 : Int) : Rat) ∧ ¬ ((max a2 b2 : Int) : Rat) < y := by
  simp only [crosses, Bool.or_eq_true, decide_eq_true_eq] at h
  have hc : ∀ x z : Int, (x : Rat) < (z : Rat) ↔ x < z := fun x z => Rat.intCast_lt_intCast
  rcases h with ⟨h1, h2⟩ | ⟨h1, h2⟩
  · have h3 : a2 < b2 := (hc _ _).1 (by grind)
    refine ⟨by omega, ?_, ?_⟩
    · rw [show min a2 b2 = a2 by omega]; grind
    · rw [show max a2 b2 = b2 by omega]; grind
  · have h3 : b2 < a2 := (hc _ _).1 (by grind)
    refine ⟨by omega, ?_, ?_⟩
    · rw [show min a2 b2 = b2 by omega]; grind
    · rw [show max a2 b2 = a2 by omega]; grind
theorem Sz.xAt {a1 a2 b1 b2 : Int} {y : Rat} {k : Nat} (ha : InC (a1, a2)) (hb : InC (b1, b2)) (hy : Sz k y) (hne : a2 ≠ b2) : Sz (k + 10) (xAt ((a1, a2), (b1, b2)) y) := by
  rw [xAt_along]
  obtain ⟨h1, h2, h3, h4⟩ := ha
  obtain ⟨h5, h6, h7, h8⟩ := hb
  dsimp only at *
  exact (Sz.along ⟨h1, h2⟩ ⟨h5, h6⟩ ((hy.sub (Sz.coord (z := a2) (by omega) (by omega))).mul (Sz.rat (n := 1) (d := b2 - a2) (by omega) (by omega) (by omega) (by omega) (by omega)))).mono (by omega)
/-- what a function hands back that finds a number -/
def SomePost (w : World) (q : Rat) (e : Ending) (w' : World) : Prop := ∃ v, e = .returned (.tuple #[v, .bool true]) ∧ Ext w w' ∧ RV w' v q
set_option maxHeartbeats 1600000 in
set_option maxRecDepth 8000 in
theorem XAt_any {a1 a2 b1 b2 : Int} {u : Value} {y : Rat} {k : Nat} {w : World} (ha : InC (a1, a2)) (hb : InC (b1, b2)) (hy : RV w u y) (hs : Sz k y) (hk : k ≤ 1000000) (hcr : crosses ((a1, a2), (b1, b2)) y = true) :
    Calls Tryz.prog 93 #[ptV (a1, a2), ptV (b1, b2), u] w (SomePost w (xAt ((a1, a2), (b1, b2)) y)) := by
  obtain ⟨hne, hlo, hhi⟩ := crosses_facts hcr
  rw [xAt_along]
  unfold InC at ha hb
  dsimp only at ha hb
  have ia : InC (a1, a2) := ha
  have ib : InC (b1, b2) := hb
  have sl := Sz.coord (z := min a2 b2) (by omega) (by omega)
  have sh := Sz.coord (z := max a2 b2) (by omega) (by omega)
  have sa := Sz.coord (z := a2) (by omega) (by omega)
  have sr : Sz 2 (ratI 1 (b2 - a2)) := Sz.rat (by omega) (by omega) (by omega) (by omega) (by omega)
  have q2 : IntKind.i64.wrap (b2 - a2) = b2 - a2 := IntWalk.i64_in _ (by omega)
  have HF1 := Lib.hid (fun W => fromIntV (min a2 b2) W (by omega) (by omega))
  have HF2 := Lib.hid (fun W => fromIntV (max a2 b2) W (by omega) (by omega))
  have HF3 := Lib.hid (fun W => fromIntV a2 W (by omega) (by omega))
  have HC1 := Lib.hid (fun W v (hw : Ext w W) (hv : RV W v ((min a2 b2 : Int) : Rat)) => cmpR (hy.ext hw) hv hs sl (by omega))
  have HC2 := Lib.hid (fun W v (hw : Ext w W) (hv : RV W v ((max a2 b2 : Int) : Rat)) => cmpR (hy.ext hw) hv hs sh (by omega))
  have HB := Lib.hid (fun W => by_any 1 (b2 - a2) W (by omega) (by omega) (by omega) (by omega) (by omega))
  have HS := Lib.hid (fun W v (hw : Ext w W) (hv : RV W v (a2 : Rat)) => subR (hy.ext hw) hv hs sa (by omega))
  have HM := Lib.hid (fun W u v (hu : RV W u (y - (a2 : Rat))) (hv : RV W v (ratI 1 (b2 - a2))) => mulR hu hv (hs.sub sa) sr (by omega))
  have HA := Lib.hid (fun W u (hu : RV W u ((y - (a2 : Rat)) * ratI 1 (b2 - a2))) => along_any (a := a1) (b := b1) ⟨ha.1, ha.2.1⟩ ⟨hb.1, hb.2.1⟩ hu ((hs.sub sa).mul sr) (by omega))
  have d0 : (a2 == b2) = false := by simp [hne]
  have d1 : (cmpQ y ((min a2 b2 : Int) : Rat) < 0) = False := eq_false (fun h => hlo (cmpQ_neg.1 h))
  have d2 : (0 < cmpQ y ((max a2 b2 : Int) : Rat)) = False := eq_false (fun h => hhi (cmpQ_pos.1 h))
  generalize cmpQ y ((min a2 b2 : Int) : Rat) = r1 at *
  generalize cmpQ y ((max a2 b2 : Int) : Rat) = r2 at *
  obtain ⟨lo, hlo'⟩ : ∃ q : Rat, ((min a2 b2 : Int) : Rat) = q := ⟨_, rfl⟩
  obtain ⟨hi, hhi'⟩ : ∃ q : Rat, ((max a2 b2 : Int) : Rat) = q := ⟨_, rfl⟩
  rw [hlo'] at HF1 HC1
  rw [hhi'] at HF2 HC2
  generalize alongR a1 b1 ((y - (a2 : Rat)) * ratI 1 (b2 - a2)) = res at *
  generalize ratI 1 (b2 - a2) = inv at *
  generalize ((a2 : Int) : Rat) = ra at *
  obtain ⟨m, hm⟩ : ∃ m, min a2 b2 = m := ⟨_, rfl⟩
  obtain ⟨M, hM⟩ : ∃ m, max a2 b2 = m := ⟨_, rfl⟩
  rw [hm] at HF1
  rw [hM] at HF2
  obtain ⟨c1, A1, n1, k1, c1', A1', n1', k1', rfl, hy⟩ := hy
  obtain ⟨O1, hO1⟩ : ∃ O, O = Obj.cells #[.int .i64 a1, .int .i64 a2] 49 := ⟨_, rfl⟩
  obtain ⟨O2, hO2⟩ : ∃ O, O = Obj.cells #[.int .i64 b1, .int .i64 b2] 49 := ⟨_, rfl⟩
  obtain ⟨O3, hO3⟩ : ∃ O, O = Obj.cells #[.bool c1, .slice A1 n1 k1, .bool c1', .slice A1' n1' k1'] 29 := ⟨_, rfl⟩
  obtain ⟨O4, hO4⟩ : ∃ O, O = Obj.cells #[.bool false, .slice none 0 0, .bool false, .slice none 0 0] 29 := ⟨_, rfl⟩
  have hE := (((Ext.alloc w O1).trans (Ext.alloc _ O2)).trans (Ext.alloc _ O3)).trans (Ext.alloc _ O4)
  have x0 := (((Box.new w 49 #[.int .i64 a1, .int .i64 a2]).alloc O2).alloc O3).alloc O4
  have x1 := ((Box.at1 (w := w) (o := O1) (t := 49) (cs := #[.int .i64 b1, .int .i64 b2])).alloc O3).alloc O4
  have x2 := (Box.at2 (w := w) (o := O1) (o' := O2) (t := 29) (cs := #[.bool c1, .slice A1 n1 k1, .bool c1', .slice A1' n1' k1'])).alloc O4
  have x3 := Box.at3 (w := w) (o := O1) (o' := O2) (o'' := O3) (t := 29) (cs := #[.bool false, .slice none 0 0, .bool false, .slice none 0 0])
  rw [← hO1] at x0
  rw [← hO2] at x1
  rw [← hO3] at x2
  rw [← hO4] at x3
  rw [hO1, hO2, hO3, hO4] at hE x0 x1 x2 x3
  clear hO1 hO2 hO3 hO4 hy hs sl sh sa sr hlo' hhi' hne hlo hhi hcr ha hb
  go_enter Tryz.func93, Tryz.ntmps93
  go_wp2_with fail
  apply wp_region_par' 14 (by kernel_rfl) (by kernel_rfl) rfl
  simp only [List.take_succ_cons, List.take_zero, List.drop_succ_cons, List.drop_zero]
  generalize hW : World.drew _ = W
  have hEW := Ext.of_drew hE hW
  replace x0 := Box.of_drew x0 hW
  replace x1 := Box.of_drew x1 hW
  replace x2 := Box.of_drew x2 hW
  replace x3 := Box.of_drew x3 hW
  clear hW hE
  have z0 := x0.lcell
  have z1 := x1.lcell
  iterate 5
    refine parW_step rfl (fun K hK => ?_)
    apply Exists.intro
    refine ⟨fun z => ?_, ?_⟩
    focus
      go_simp
      first
        | rfl
        | fail
    go_simp
    refine hK _ ?_
    clear hK K
  refine parW_rel rfl (RV.stable lo) (fun x => ?_) ?_
  · have hc := HF1.out x.val
    simp only [Giv]
    go_simp
    exact calls_rel hc
  iterate 5
    refine parW_step rfl (fun K hK => ?_)
    apply Exists.intro
    refine ⟨fun z => ?_, ?_⟩
    focus
      go_simp
      first
        | rfl
        | fail
    go_simp
    refine hK _ ?_
    clear hK K
  refine parW_rel rfl (RV.stable hi) (fun x => ?_) ?_
  · intro v1 hv1
    have hc := HF2.out x.val
    simp only [Giv]
    go_simp
    exact calls_rel hc
  refine parW_new (t := 29) (cs := #[.bool false, .slice none 0 0, .bool false, .slice none 0 0]) rfl rfl rfl (by simp) (fun w1 => by kernel_rfl) ?_
  refine parW_new (t := 29) (cs := #[.bool false, .slice none 0 0, .bool false, .slice none 0 0]) rfl rfl rfl (by simp) (fun w1 => by kernel_rfl) ?_
  refine parW_fin (fun z => ?_)
  rintro v1 o1 v2 o2 v3 ⟨g8, rfl, h8, y8⟩ v4 ⟨g9, rfl, h9, y9⟩ hp
  have hne : g8 ≠ g9 := by simpa [blockOf] using hp
  have hsw := hEW.size
  simp only [Act.put, List.setIfInBounds_toArray, List.set_cons_succ, List.set_cons_zero]
  obtain ⟨p1, P1, p2, p3, p1', P1', p2', p3', r1', R1, r2', r3', r1'', R1', r2'', r3'', Z', rfl, rfl, hZ, hE', y1, y2, j1, j2, hb'⟩ := two_putR (w := w) hne y8 y9 (hEW.trans z.prop) (by omega) (by omega) o1 o2
  have HZ := Lib.hid hZ
  have f8 := y8.frozen
  have f9 := y9.frozen
  have e8 := y8.cell
  have e9 := y9.cell
  have n1 : w.heap.size ≠ g8 := by have := x0.lt; omega
  have n2 : w.heap.size ≠ g9 := by have := x0.lt; omega
  have n3 : w.heap.size + 1 ≠ g8 := by have := x1.lt; omega
  have n4 : w.heap.size + 1 ≠ g9 := by have := x1.lt; omega
  have n5 : w.heap.size + 1 + 1 ≠ g8 := by have := x2.lt; omega
  have n6 : w.heap.size + 1 + 1 ≠ g9 := by have := x2.lt; omega
  have n7 : w.heap.size + 1 + 1 + 1 ≠ g8 := by have := x3.lt; omega
  have n8 : w.heap.size + 1 + 1 + 1 ≠ g9 := by have := x3.lt; omega
  replace x0 := hb' _ _ _ n1 n2 (x0.later z)
  replace x1 := hb' _ _ _ n3 n4 (x1.later z)
  replace x2 := hb' _ _ _ n5 n6 (x2.later z)
  replace x3 := hb' _ _ _ n7 n8 (x3.later z)
  replace j1 : RV Z' _ _ := ⟨_, _, _, _, _, _, _, _, rfl, j1⟩
  replace j2 : RV Z' _ _ := ⟨_, _, _, _, _, _, _, _, rfl, j2⟩
  clear hZ hb' hp z0 z1 o1 o2 n1 n2 n3 n4 n5 n6 n7 n8 y8 y9
  generalize z.val = Z at *
  have c0 := x0.cell
  have c1 := x1.cell
  have c2 := x2.cell
  rw [← HZ.out] at c0 c1 c2
  go_wp2_with fail
  rw [HZ.out] at c0 c1 c2 ⊢
  have hsz : Z.heap.size = Z'.heap.size := by rw [← HZ.out]; simp only [size_set]
  clear HZ f8 f9 e8 e9
  have b0 := Box.newAt (w := Z') (t := 49) (cs := #[.int .i64 a1, .int .i64 a2, .int .i64 b1, .int .i64 b2]) hsz
  refine (may_any [(a1, a2), (b1, b2)] _ 2 2 _ rfl (by omega) (two_pts (a := (a1, a2)) (b := (b1, b2)) b0) (by
    intro p hp
    simp only [List.mem_cons, List.not_mem_nil, or_false] at hp
    rcases hp with rfl | rfl
    · exact ia
    · exact ib)).mono ?_
  rintro e w1 ⟨rfl, hE1⟩
  have hEA := (Ext.alloc Z' _).trans hE1
  clear b0 hE1 c0 c1 c2 hEW
  replace x0 := x0.ext hEA
  replace x1 := x1.ext hEA
  replace x2 := x2.ext hEA
  replace x3 := x3.ext hEA
  replace y1 := y1.ext hEA
  replace y2 := y2.ext hEA
  replace j1 := j1.ext hEA
  replace j2 := j2.ext hEA
  replace hE' := hE'.trans hEA
  clear hEA
  have c0 := x0.cell
  have c1 := x1.cell
  have c2 := x2.cell
  have c8 := y1.cell
  go_wp2_with fail
  refine (HC1.out _ _ hE' j1).mono ?_
  rintro e w2 ⟨rfl, hEA⟩
  clear c0 c1 c2 c8
  replace x0 := x0.ext hEA
  replace x1 := x1.ext hEA
  replace x2 := x2.ext hEA
  replace x3 := x3.ext hEA
  replace y2 := y2.ext hEA
  replace j2 := j2.ext hEA
  replace hE' := hE'.trans hEA
  clear hEA
  have c2 := x2.cell
  have c8 := y2.cell
  go_wp2_with fail
  refine (HC2.out _ _ hE' j2).mono ?_
  rintro e w3 ⟨rfl, hEA⟩
  clear c2 c8
  replace x0 := x0.ext hEA
  replace x1 := x1.ext hEA
  replace x2 := x2.ext hEA
  replace x3 := x3.ext hEA
  replace hE' := hE'.trans hEA
  clear hEA y1 y2 j1 j2 HC1 HC2 HF1 HF2
  go_wp2_with fail
  apply wp_region_par' 13 (by kernel_rfl) (by kernel_rfl) rfl
  simp only [List.take_succ_cons, List.take_zero, List.drop_succ_cons, List.drop_zero]
  generalize hW : World.drew _ = V
  have hEW := Ext.of_drew hE' hW
  replace x0 := Box.of_drew x0 hW
  replace x1 := Box.of_drew x1 hW
  replace x2 := Box.of_drew x2 hW
  replace x3 := Box.of_drew x3 hW
  clear hW hE'
  have z0 := x0.lcell
  have z1 := x1.lcell
  have z2 := x2.lcell
  iterate 3
    refine parW_step rfl (fun K hK => ?_)
    apply Exists.intro
    refine ⟨fun z => ?_, ?_⟩
    focus
      go_simp
      first
        | rfl
        | fail
    go_simp
    refine hK _ ?_
    clear hK K
  refine parW_rel rfl (RV.stable ra) (fun x => ?_) ?_
  · have hc := HF3.out x.val
    simp only [Giv]
    go_simp
    exact calls_rel hc
  refine parW_rel rfl (RV.stable (y - ra)) (fun x => ?_) ?_
  · intro v1 hv1
    have q1 := hv1 (show Nat.testBit _ _ = true from by kernel_rfl)
    have hc := HS.out x.val _ (hEW.later x) q1
    simp only [Giv]
    go_simp
    exact calls_rel hc
  iterate 5
    refine parW_step rfl (fun K hK => ?_)
    apply Exists.intro
    refine ⟨fun z => ?_, ?_⟩
    focus
      go_simp
      first
        | rfl
        | fail
    go_simp
    refine hK _ ?_
    clear hK K
  refine parW_rel rfl (RV.stable inv) (fun x => ?_) ?_
  · intro v1 hv1 v2 hv2
    have hc := HB.out x.val
    simp only [Giv]
    go_simp
    exact calls_rel hc
  refine parW_rel rfl (RV.stable ((y - ra) * inv)) (fun x => ?_) ?_
  · intro v1 hv1 v2 hv2 v3 hv3
    have q2 := hv2 (show Nat.testBit _ _ = true from by kernel_rfl)
    have q3 := hv3 (show Nat.testBit _ _ = true from by kernel_rfl)
    have hc := HM.out x.val _ _ q2 q3
    simp only [Giv]
    go_simp
    exact calls_rel hc
  refine parW_new (t := 29) (cs := #[.bool false, .slice none 0 0, .bool false, .slice none 0 0]) rfl rfl rfl (by simp) (fun w1 => by kernel_rfl) ?_
  refine parW_fin (fun z => ?_)
  rintro v1 o1 v2 o2 v3 o3 v4 o4 v5 ⟨g8, rfl, h8, y8⟩ hp
  have hsw := hEW.size
  simp only [Act.put, List.setIfInBounds_toArray, List.set_cons_succ, List.set_cons_zero]
  obtain ⟨b, A', n', c', b', A'', n'', c'', rfl, hEf, gf⟩ := RV.put (w := w) o4 y8 (by omega) (hEW.trans z.prop)
  have c6 := y8.cell
  have f6 := y8.frozen
  have k4 := ((((But.refl g8 z.val).set 0 (.bool b)).set 1 (.slice A' n' c')).set 2 (.bool b')).set 3 (.slice A'' n'' c'')
  have n1 : w.heap.size ≠ g8 := by have := x0.lt; omega
  have n3 : w.heap.size + 1 ≠ g8 := by have := x1.lt; omega
  have n7 : w.heap.size + 1 + 1 + 1 ≠ g8 := by have := x3.lt; omega
  replace x0 := k4.box (x0.later z) n1
  replace x1 := k4.box (x1.later z) n3
  replace x3 := k4.box (x3.later z) n7
  obtain ⟨Y, hY⟩ : ∃ Y, ((((z.val.setCell ⟨g8, 0, none⟩ (.bool b)).setCell ⟨g8, 1, none⟩ (.slice A' n' c')).setCell ⟨g8, 2, none⟩ (.bool b')).setCell ⟨g8, 3, none⟩ (.slice A'' n'' c'')) = Y := ⟨_, rfl⟩
  rw [hY] at hEf gf x0 x1 x3
  have HY := Lib.hid hY
  clear o1 o2 o3 o4 hp z0 z1 z2 k4 hY y8 n1 n3 n7 x2 HS HM HB HF3
  generalize z.val = Z at *
  have c0 := x0.cell
  have c1 := x1.cell
  rw [← HY.out] at c0 c1
  go_wp2_with fail
  rw [HY.out] at c0 c1 ⊢
  clear HY c6 f6
  refine (HA.out _ _ gf).mono ?_
  rintro e w4 ⟨v, rfl, hEA, g1⟩
  replace x3 := x3.ext hEA
  obtain ⟨b, A', n', c', b', A'', n'', c'', rfl, hEg, gg⟩ := RV.put (w := w) g1 x3 (by omega) (hEf.trans hEA)
  have c6 := x3.cell
  have f6 := x3.frozen
  clear g1 gf hEf HA x0 x1 x3 hEA c0 c1
  go_wp2
  exact bodyPost_ret (v := .tuple #[.agg #[.bool b, .slice A' n' c', .bool b', .slice A'' n'' c''], .bool true]) (by simp [results, Tryz.results93, go_sem, c6, f6]) rfl ⟨_, rfl, hEg, gg⟩
end Go.Proofs.YtodefmfgoehkhaaGreat
