/- Outline of the program. -/
import Derived.Test.YtkjpcjmbhpfelaaGreatZF
import Derived.Test.YtkjpcjmbhpfelaaGreatRgOutS
import Derived.Test.YtkjpcjmbhpfelaaGreatRgKept
import Derived.Test.YtkjpcjmbhpfelaaGreatZG
import Derived.Test.YtkjpcjmbhpfelaaGreatRgNew
set_option linter.unusedVariables false
set_option linter.unusedSimpArgs false
namespace Go.Proofs.YtkjpcjmbhpfelaaGreat
open Go.RowKit Go.Par Go.Reg Go.Maps

def scl (x : Crn) : Int × Int := (x.1 * 256, x.2.1 * 256)
abbrev RSl := Sl × List Crn
/-- a slice of points that is a ring, in a block known whole -/
def RingRow (w : World) (t : RSl) : Prop := t.2.length = t.1.2.1 ∧ t.1.2.1 ≤ 10000000 ∧ t.2 ≠ [] ∧ (∀ x ∈ t.2, (-4096 ≤ x.1 ∧ x.1 ≤ 4096) ∧ (-4096 ≤ x.2.1 ∧ x.2.1 ≤ 4096)) ∧ ptE.BoxAt w t.1.1 (t.2.map scl)
theorem RingRow.ext {w w' : World} {t : RSl} (h : RingRow w t) (he : Ext w w') : RingRow w' t := ⟨h.1, h.2.1, h.2.2.1, h.2.2.2.1, h.2.2.2.2.ext he⟩
theorem RingRow.grown {β : Type} {F : EL Tryz.prog β} {w w' : World} {B2 : Nat} {t : RSl} {v : Value} {ss : List β} (h : RingRow w t) (hown : F.Own w B2 v ss) (ht : ptE.t ≠ F.t) (hg : w.grownBy w' v.ownBlock) : RingRow w' t := ⟨h.1, h.2.1, h.2.2.1, h.2.2.2.1, h.2.2.2.2.grown hown ht hg⟩
theorem RingRow.set {w : World} {g2 i : Nat} {u : Value} {cs : Array Value} {t : RSl} (h : RingRow w t) (hb : Box w g2 boolE.t cs) : RingRow (w.setCell ⟨g2, i, none⟩ u) t := ⟨h.1, h.2.1, h.2.2.1, h.2.2.2.1, h.2.2.2.2.set (F := boolE) hb (by decide)⟩
def OutRes (l : List R4) (v : Value) (er : Int) (w : World) : Prop := ∃ L, RegionOf (inL l) L ∧ ((L.length ≤ 1024 ∧ er = 0 ∧ ∃ (A : Option Addr) (n c : Nat) (T : List RSl), v = .slice A n c ∧ T.length = n ∧ n ≤ 10000000 ∧ n ≤ c ∧ ptsE.At w A (T.map (·.1)) ∧ (∀ t ∈ T, RingRow w t) ∧ OutOf (inL l) (T.map (·.2)) ∧ OutSum L (T.map (·.2))) ∨
  (1024 < L.length ∧ er = 5 ∧ v = .slice none 0 0))
theorem _root_.Go.Par.Fam.keptMap {P : Program} {α ι : Type} {E : EL P α} {w w' : World} {base b : Nat} {val : ι → Value} {F : ι → List α} (h : Fam E w base val F) (hm : ∃ es cl, w.heap[b]? = some (.map es cl)) (hg : w.grownBy w' (some b)) : Fam E w' base val F :=
  h.kept hg fun i => .inr fun e => by
    obtain ⟨_, cur, hc⟩ := ownBlock_cells (h.own i) e.symm
    obtain ⟨es, cl, hmp⟩ := hm
    rw [hmp] at hc; cases hc
def sliceLen : Value → Nat
  | .slice _ n _ => n
  | _ => 0
set_option maxRecDepth 100000 in
set_option maxHeartbeats 6400000 in
theorem outline_any (l : List R4) (A : Option Addr) (n c : Nat) (w : World) (hn : l.length = n) (hb : n ≤ 1024) (hA : rectE.At w A l) :
    Calls Tryz.prog 6 #[.slice A n c] w fun e w' => ∃ v er, e = .returned (.tuple #[v, .int .i64 er]) ∧ Ext w w' ∧ OutRes l v er w' := by
  have hmm := @run_makeMap Tryz.prog
  have H := Lib.hid (New_any l A n c w hn hb hA)
  clear hn hA
  go_enter Tryz.func6, Tryz.ntmps6
  go_wp2_with fail
  refine H.out.mono ?_
  rintro e w1 ⟨v, er, L, rfl, hE1, hr, hres⟩
  have HR := Lib.hid hr
  obtain ⟨k1, rfl, hown⟩ | ⟨k1, rfl, rfl⟩ := hres
  rotate_left
  · clear hr
    go_wp2
    exact bodyPost_ret (v := .tuple #[.slice none 0 0, .int .i64 5]) (by simp [results, Tryz.results6, go_sem, List.size_toArray]) rfl ⟨_, 5, rfl, hE1, L, HR.out, .inr ⟨k1, rfl, rfl⟩⟩
  · have HL := Lib.hid k1
    obtain ⟨m, hm⟩ : ∃ m, L.length = m := ⟨_, rfl⟩
    obtain ⟨A1, c1, rfl, _, hat⟩ := hown.at hm (by omega)
    have hw := inL_win l
    have HSY := Lib.hid (edges_sys hr hw)
    have hbd := edges_bd hr hw
    have HBD := Lib.hid hbd
    have HLN := Lib.hid (edgesOf_len k1)
    have HTO := Lib.hid (fun i e (h : (edgesOf L)[i]? = some e) => HSY.out.to_bd hbd h)
    have HED := Lib.hid (edges_any L A1 m c1 w1 hm (by omega) hat (fun r hrm => by have := empty_false ((hr.geo hw).full r hrm); omega))
    clear hr hown hm hat hbd hw k1 H
    generalize hEe : edgesOf L = E at *
    have HEE := Lib.hid hEe
    clear hEe
    go_wp2_with fail
    refine HED.out.mono ?_
    rintro e w2 ⟨v, rfl, hE2, hown⟩
    obtain ⟨ne, hne⟩ : ∃ ne, E.length = ne := ⟨_, rfl⟩
    have HNE := Lib.hid hne
    have hneb : ne ≤ 2101248 := by rw [← hne]; exact HLN.out
    obtain ⟨A6, c6, rfl, hc6, hat⟩ := hown.at hne (by omega)
    replace hE1 := hE1.trans hE2
    clear hE2 hown HED HLN hne
    obtain ⟨Bm, hBm⟩ : ∃ Bm, w2.heap.size = Bm := ⟨_, rfl⟩
    have hm0 : MapP (w2.alloc (.map #[] 0)) Bm 0 (fun _ => nilV) := by rw [← hBm]; exact MapVal.made w2
    have hf0 : Fam intE (w2.alloc (.map #[] 0)) w2.heap.size (fun _ => nilV : Int × Int → Value) (startsOf E 0) := Fam.nil _ _ _
    have hE0 := Ext.alloc w2 (.map #[] 0)
    go_wp2_with fail
    have HBm := Lib.hid hBm
    clear hBm
    go_loopw [28] (fun i wr => ∃ (k : Nat) (val : Int × Int → Value), k ≤ ne ∧ i = .int .i64 k ∧ Ext w2 wr ∧ MapP wr Bm k val ∧ Fam intE wr w2.heap.size val (startsOf E k)) (fun i _ => ne - (intOf i).toNat)
    case atStart => exact ⟨0, _, Nat.zero_le _, rfl, hE0, hm0, hf0⟩
    case round =>
      clear hm0 hf0 hE0
      obtain ⟨k, val, hk, rfl, hE, hmv, hf⟩ := hrel
      by_cases hlt : k < ne
      · have dk : ((k : Int) < (ne : Int)) = True := eq_true (by omega)
        obtain ⟨⟨x, y, x', y', d⟩, hlk⟩ : ∃ q, E[k]? = some q := ⟨_, List.getElem?_eq_getElem (by rw [HNE.out]; exact hlt)⟩
        obtain ⟨bx, by'⟩ := HBD.out _ (List.mem_of_getElem? hlk)
        dsimp only at bx by'
        obtain ⟨bA, oA, rfl⟩ := hat.addr hlk
        obtain ⟨e0, e1, e2, e3, e4⟩ := edg_cell hat hlk
        dsimp only at e0 e1 e2 e3 e4
        replace e0 := hE.cell e0
        replace e1 := hE.cell e1
        replace e2 := hE.cell e2
        replace e3 := hE.cell e3
        replace e4 := hE.cell e4
        have HS := Lib.hid (startsOf_step hlk)
        have hEa := (Ext.alloc wr (.cells #[.int .i64 x, .int .i64 y, .int .i64 x', .int .i64 y', .int .i64 (d : Int)] 44)).trans (Ext.alloc _ (.cells #[.int .i64 (k : Int)] 3))
        have b9 := (Box.new wr 44 #[.int .i64 x, .int .i64 y, .int .i64 x', .int .i64 y', .int .i64 (d : Int)]).cell
        obtain ⟨st, w4, hr4, hg4, hmp4, hst⟩ := (hmv.ext hEa).entry ptV_inj kp_law Tryz.underlying40 zero_ints (show k < maxLen by unfold maxLen; omega) (y := (x, y)) (kp_key bx by')
        have hf4 := (hf.ext hEa).map (hmv.ext hEa) hg4
        have hbk := Box.at1 (w := wr) (o := .cells #[.int .i64 x, .int .i64 y, .int .i64 x', .int .i64 y', .int .i64 (d : Int)] 44) (t := 3) (cs := #[.int .i64 (k : Int)])
        have hlt4 := hmv.lt
        have hrow := EL.rowOne (E := intE) (x := (k : Int)) (boxGrown hbk hg4 (fun e => by injection e with e; omega)) rfl
        have hown4 := hf4.own (x, y)
        have hE4 := (hE.trans hEa).grownAt hg4 (fun i hi => by injection hi with hi; rw [← hi, HBm.out]; exact Nat.le_refl _)
        have hsz := hE4.size
        have hll : (startsOf E k (x, y)).length + ([(k : Int)] : List Int).length ≤ 1000000000 := by have := startsOf_len E k (x, y); simp only [List.length_singleton]; omega
        have hlt5 : Bm < w4.heap.size := by obtain ⟨es, cl, hmp⟩ := hmp4; exact (Array.getElem?_eq_some_iff.1 hmp).1
        have hnm : (val (x, y)).ownBlock ≠ some Bm := fun e => by
          obtain ⟨_, cur, hc⟩ := ownBlock_cells hown4 e.symm
          obtain ⟨es, cl, hmp⟩ := hmp4
          rw [hmp] at hc; cases hc
        simp only [ptV, goInt] at hr4
        clear hlk hbk hmv hEa hf
        go_wp2_with (at_builtin; refine EL.wpApp intE rfl _ _ rfl w2.heap.size _ _ (startsOf E k (x, y)) [(k : Int)] rfl rfl hown4 hrow hll hsz ?_; intro v1 W1 own1 gr1 loc1; obtain ⟨w5, hr5, hm5, hg5⟩ := hst W1 v1 (gr1.block Bm hlt5 (fun e => hnm e.symm)); simp only [goInt] at hr5)
        have gr : w4.grownBy W1 (val (x, y)).ownBlock := gr1
        have loc : v1 = val (x, y) ∨ v1.ownBlock = (val (x, y)).ownBlock ∨ v1.ownBlock = some w4.heap.size := loc1
        have hmp5 : ∃ es cl, W1.heap[Bm]? = some (.map es cl) := by
          obtain ⟨es, cl, hmp⟩ := hmp4
          exact ⟨es, cl, (gr.block Bm hlt5 (fun e => hnm e.symm)).trans hmp⟩
        have hf5 := (hf4.set gr own1 loc).keptMap hmp5 hg5
        have hE5 := (growExt hE4 hown4 (Nat.le_refl _) gr).grownAt hg5 (fun i hi => by injection hi with hi; rw [← hi, HBm.out]; exact Nat.le_refl _)
        clear gr1 loc1
        go_roundw
        case rel => exact ⟨k + 1, _, by omega, by go_num, hE5, hm5, by rw [HS.out]; exact hf5⟩
        case measure => simp [intOf]; omega
      · have dk : ((k : Int) < (ne : Int)) = False := eq_false (by omega)
        have hkn : k = ne := by omega
        have HST := Lib.hid (fun p => startsOf_at E p)
        have HSL := Lib.hid (fun p => startsOf_len E k p)
        have hkE : E.length = k := by rw [HNE.out, hkn]
        rw [hkE] at HST
        have HLK := Lib.hid (fun (x y : Int) (h1 : -4096 ≤ x ∧ x ≤ 4096) (h2 : -4096 ≤ y ∧ y ≤ 4096) => show ∃ A2 m2 c2, (startsOf E k (x, y)).length = m2 ∧ m2 ≤ 10000000 ∧ ∀ W, Ext wr W → intE.At W A2 (startsOf E k (x, y)) ∧ (Instr.lookup 40 (.map (some Bm)) (.agg #[.int .i64 x, .int .i64 y]) false).run Tryz.prog W = .ok (.slice A2 m2 c2) W from by
          have hl := HSL.out (x, y)
          obtain ⟨A2, c2, e, _, hat2⟩ := (hf.own (x, y)).at rfl (by omega)
          refine ⟨A2, _, c2, rfl, by omega, fun W kW => ⟨hat2.ext kW, ?_⟩⟩
          rw [← e]
          exact (hmv.ext kW).look (Go.Maps.Keyed.of_law kp_law) Tryz.underlying40 (zero_ints _) (y := (x, y)) (kp_key h1 h2))
        replace hat := hat.ext hE
        replace hE1 := hE1.trans hE
        clear hkn hkE hmv hf hE
        generalize wr = w3 at *
        obtain ⟨cs0, hcs0, hcs, hmk⟩ := EL.make boolE ne ne (Nat.le_refl _) (by omega)
        have hz := bool_zeros hcs0
        have hmk' : ∀ W, (Instr.makeSlice 46 (.int .i64 (ne : Int)) (.int .i64 (ne : Int))).run Tryz.prog W = .ok (.slice (some ⟨W.heap.size, 0, none⟩) ne ne) (W.alloc (.cells cs0 4)) := hmk
        have hownS : boolE.Own (w3.alloc (.cells cs0 4)) w3.heap.size (.slice (some ⟨w3.heap.size, 0, none⟩) ne ne) (List.replicate ne false) :=
          EL.Own.mk (by simp) (Nat.le_refl _) (Box.new w3 4 cs0) (Nat.le_refl _) (by unfold maxLen; omega) hcs hz
        have hE3 := Ext.alloc w3 (.cells cs0 4)
        have HSUC := Lib.hid (fun (k0 : Nat) (x y x' y' : Int) (d : Nat) (he : E[k0]? = some (x, y, x', y', d)) (W : World) (kW : Ext w3 W) => show Calls Tryz.prog 15 #[.agg #[.int .i64 x, .int .i64 y, .int .i64 x', .int .i64 y', .int .i64 (d : Int)], .slice A6 ne c6, .map (some Bm)] W (fun e w' => ∃ j : Nat, e = .returned (.int .i64 (j : Int)) ∧ Ext W w' ∧ NextE (inL l) E k0 j) from by
          obtain ⟨h1, h2⟩ := HTO.out k0 _ he
          dsimp only at h1 h2
          obtain ⟨A2, m2, c2, l1, l2, l3⟩ := HLK.out x' y' h1 h2
          exact successor_any (inL l) E A6 ne c6 Bm k0 x y x' y' d _ A2 m2 c2 W HSY.out HNE.out (by omega) (hat.ext kW) he (HST.out (x', y')) l1 l2 (l3 W kW).1 (fun W' k' => (l3 W' (kW.trans k')).2))
        have HCL := Lib.hid (fun (q : List Nat) (ce : List Edg) (h1 : Cyc (NextE (inL l) E) q) (h2 : EdgesAt E q ce) => show corn (lastD ce) ce ≠ [] ∧ ∀ e ∈ ce, (-4096 ≤ e.1 ∧ e.1 ≤ 4096) ∧ (-4096 ≤ e.2.1 ∧ e.2.1 ≤ 4096) ∧ e.2.2.2.2 < 4 from by
          obtain ⟨k0, K, e1, _⟩ := closed_ring (cyc_closed HSY.out h1 h2).1
          refine ⟨by rw [e1]; simp, fun e he => ?_⟩
          obtain ⟨t, ht⟩ := List.mem_iff_getElem?.1 he
          obtain ⟨j, _, hj⟩ := h2.back ht
          have hm := List.mem_of_getElem? hj
          obtain ⟨b1, b2⟩ := HBD.out e hm
          exact ⟨b1, b2, shape_dir (HSY.out.shape e hm)⟩)
        have HINJ := Lib.hid (fun i j k h1 h2 => HSY.out.inj (i := i) (j := j) (k := k) h1 h2)
        have HNX := Lib.hid (fun i j (h : NextE (inL l) E i j) => show j < ne from by obtain ⟨_, f, _, h2, _⟩ := h; rw [← HNE.out]; exact (List.getElem?_eq_some_iff.1 h2).1)
        have HOUT := Lib.hid (fun (cs : List (List Nat)) (Rs O : List (List Crn)) h1 h2 h3 h4 h5 h6 h7 => out_of HSY.out (cs := cs) (Rs := Rs) (O := O) h1 h2 h3 h4 h5 h6 h7)
        have HCS := Lib.hid (CyS.start (NextE (inL l) E) ne)
        obtain ⟨g0, hg0⟩ : ∃ g0, w3.heap.size = g0 := ⟨_, rfl⟩
        have HG0 := Lib.hid hg0
        rw [hg0] at hownS
        clear hmk hz hcs0 hcs HLK HST HSL HTO HBD
        go_wp2_with fail
        clear hg0 hmk'
        go_loopw [11, 48] (fun s i wr => ∃ (i0 : Nat) (cs : List (List Nat)) (T : List RSl) (used : List Bool), i0 ≤ ne ∧ i = .int .i64 i0 ∧ Ext w3 wr ∧ boolE.Own wr g0 (.slice (some ⟨g0, 0, none⟩) ne ne) used ∧ ptsE.Own wr g0 s (T.map (·.1)) ∧ (∀ t ∈ T, RingRow wr t) ∧ Hid (T.length = cs.length) ∧ Hid (∀ (k : Nat) (q : List Nat), cs[k]? = some q → ∃ t, T[k]? = some t ∧ RingAt E q t.2) ∧ Hid (CyS (NextE (inL l) E) ne i0 cs [] used)) (fun _ i _ => ne - (intOf i).toNat)
        case atStart => exact ⟨0, [], [], _, Nat.zero_le _, rfl, hE3, hownS, EL.Own.nil _ _, (fun t h => absurd h List.not_mem_nil), Lib.hid rfl, Lib.hid (fun k q h => absurd h (by simp)), HCS⟩
        case round =>
          clear hE3 hownS HCS
          obtain ⟨i0, cs, T, used, hi0, rfl, hE, hU, hO, hT, HTL, HTR, HCY⟩ := hrel
          by_cases hlt0 : i0 < ne
          · have di : ((i0 : Int) < (ne : Int)) = True := eq_true (by omega)
            go_wp2_with fail
            go_loopw [13, 14] (fun cy kk wz => ∃ (k : Nat) (c : List Edg) (q : List Nat) (used : List Bool), kk = .int .i64 k ∧ k < ne ∧ Ext w3 wz ∧ boolE.Own wz g0 (.slice (some ⟨g0, 0, none⟩) ne ne) used ∧ edgE.Own wz g0 cy c ∧ ptsE.Own wz g0 u11 (T.map (·.1)) ∧ (∀ t ∈ T, RingRow wz t) ∧ Hid (EdgesAt E q c) ∧ Hid (CyS (NextE (inL l) E) ne i0 cs q used) ∧ Hid (AtK (NextE (inL l) E) i0 q k)) (fun cy _ _ => ne - sliceLen cy)
            case atStart => exact ⟨i0, [], [], used, rfl, hlt0, hE, hU, EL.Own.nil _ _, hO, hT, Lib.hid (EdgesAt.nil E), HCY, Lib.hid (.inl ⟨rfl, rfl⟩)⟩
            case round =>
              clear hE hU hO hT HCY used
              obtain ⟨k, c, q, used, rfl, hkn, hE, hU, hC, hO, hT, HEA, HCY, HAK⟩ := hrel
              obtain ⟨b, hb⟩ : ∃ b, used[k]? = some b := ⟨_, List.getElem?_eq_getElem (by rw [HCY.out.len]; exact hkn)⟩
              have cb := hU.cell (i := k) (j := 0) (x := b) hb rfl
              rw [show boolE.size = 1 from rfl, Nat.mul_one, Nat.add_zero] at cb
              have hcl : c.length ≤ ne := by rw [HEA.out.1]; have := HCY.out.room; omega
              obtain ⟨nc, hnc⟩ : ∃ nc, c.length = nc := ⟨_, rfl⟩
              have HNC := Lib.hid hnc
              obtain ⟨AC, cC, rfl, hcC, hatC⟩ := hC.at hnc (by omega)
              cases b
              · obtain ⟨⟨x, y, x', y', d⟩, hk⟩ : ∃ e, E[k]? = some e := ⟨_, List.getElem?_eq_getElem (by rw [HNE.out]; exact hkn)⟩
                have HK := Lib.hid hk
                obtain ⟨bA, oA, rfl⟩ := hat.addr hk
                obtain ⟨e0, e1, e2, e3, e4⟩ := edg_cell hat hk
                dsimp only at e0 e1 e2 e3 e4
                have HCY2 := Lib.hid (HCY.out.push hb HAK.out.last)
                have hcl2 : nc + 1 ≤ ne := by have := HCY2.out.room; rw [List.length_append, ← HEA.out.1, hnc] at this; simp only [List.length_singleton] at this; omega
                have fz := hU.frozen (i := k)
                have hset := hU.setAt (i := k) (j := 0) (x := false) (y := true) (v := .bool true) hb (by decide) rfl
                rw [show boolE.size = 1 from rfl, Nat.mul_one, Nat.add_zero] at hset
                obtain ⟨cur, hz1, hz2, hbx, hz3⟩ := hU.opened
                clear hz1 hz2 hz3
                have hC1 := own_set (i := k) (u := .bool true) hC hbx (by decide)
                have hO1 := own_set (i := k) (u := .bool true) hO hbx (by decide)
                have hT1 := fun t ht => (hT t ht).set (i := k) (u := .bool true) hbx
                have hEs := hE.setNew (b := g0) (by rw [HG0.out]; exact Nat.le_refl _) k (.bool true)
                have f0 := hEs.cell e0
                have f1 := hEs.cell e1
                have f2 := hEs.cell e2
                have f3 := hEs.cell e3
                have f4 := hEs.cell e4
                have hA1 := Ext.alloc (wr.setCell ⟨g0, k, none⟩ (.bool true)) (.cells #[.int .i64 x, .int .i64 y, .int .i64 x', .int .i64 y', .int .i64 (d : Int)] 44)
                have hUA := Lib.hid (hset.ext hA1)
                have hCA := hC1.ext hA1
                have hOA := Lib.hid (hO1.ext hA1)
                have hTA := Lib.hid (fun t ht => (hT1 t ht).ext hA1)
                have hEA := hEs.trans hA1
                have hrow := EL.rowOne (E := edgE) (x := (x, y, x', y', d)) (Box.new (wr.setCell ⟨g0, k, none⟩ (.bool true)) 44 #[.int .i64 x, .int .i64 y, .int .i64 x', .int .i64 y', .int .i64 (d : Int)]) rfl
                rw [size_set wr ⟨g0, k, none⟩ (.bool true)] at hrow
                have hsz : g0 ≤ ((wr.setCell ⟨g0, k, none⟩ (.bool true)).alloc (.cells #[.int .i64 x, .int .i64 y, .int .i64 x', .int .i64 y', .int .i64 (d : Int)] 44)).heap.size := Nat.le_of_lt hUA.out.lt
                have hll : c.length + ([(x, y, x', y', d)] : List Edg).length ≤ 1000000000 := by rw [hnc]; simp only [List.length_singleton]; omega
                clear hk hb hU hC hO hT hset hbx hC1 hO1 hT1 hE hEs hA1 hatC hnc
                go_wp2_with (at_builtin; refine EL.wpApp edgE rfl _ _ rfl g0 _ _ c [(x, y, x', y', d)] rfl rfl hCA hrow hll hsz ?_; intro v1 W1 own1 gr1 _; have hE3 := growExt hEA hCA (by rw [HG0.out]; exact Nat.le_refl _) gr1; have i0' := hE3.cell e0; have i1' := hE3.cell e1; have i2' := hE3.cell e2; have i3' := hE3.cell e3; have i4' := hE3.cell e4)
                have hU3 := own_kept hUA.out hCA (by decide) gr1
                have hO3 := own_kept hOA.out hCA (by decide) gr1
                have hT3 := fun t ht => (hTA.out t ht).grown hCA (by decide) gr1
                refine (HSUC.out k x y x' y' d HK.out _ hE3).mono ?_
                rintro e w9 ⟨j, rfl, hE9, hN⟩
                have HN9 := Lib.hid hN
                have HOW := Lib.hid own1
                obtain ⟨A9, c9, rfl, _, _⟩ := own1.at (n := nc + 1) (by rw [List.length_append, HNC.out]; rfl) (by omega)
                clear own1 hN gr1 i0' i1' i2' i3' i4' f0 f1 f2 f3 f4 e0 e1 e2 e3 e4 hCA hEA hrow fz cb
                go_wp2
                go_roundw
                case rel => exact ⟨j, _, _, _, rfl, HNX.out _ _ HN9.out, hE3.trans hE9, hU3.ext hE9, HOW.out.ext hE9, hO3.ext hE9, (fun t ht => (hT3 t ht).ext hE9), Lib.hid (HEA.out.snoc HK.out), HCY2, Lib.hid (HAK.out.step HN9.out)⟩
                case measure => simp [sliceLen]; omega
              · rcases HAK.out with ⟨hq, hki⟩ | ⟨hh, a, hla, hNa⟩
                · have hc0 : nc = 0 := by rw [← hnc, HEA.out.1, hq]; rfl
                  have HCY2 := Lib.hid (CyS.pass (i := i0) (by rw [← hq]; exact HCY.out) (by rw [← hki]; exact hb))
                  clear hq hki hatC hnc hb hcl
                  subst hc0
                  go_wp2
                  go_roundw
                  case rel => exact ⟨i0 + 1, cs, T, used, by omega, by go_num, hE, hU, hO, hT, HTL, HTR, HCY2⟩
                  case measure => simp [intOf]; omega
                · have HCY2 := Lib.hid (HCY.out.shut HINJ.out hb hla hNa hh)
                  obtain ⟨hcn, hcb⟩ := HCL.out q c (HCY2.out.inv.cyc q (by simp)) HEA.out
                  have HCB := Lib.hid hcb
                  have hn0 : 0 < nc := by
                    rw [← hnc, HEA.out.1]
                    cases q with
                    | nil => simp at hla
                    | cons a q => simp
                  have hcnt := HCY2.out.count
                  have hncb : nc ≤ ne := by rw [← hnc]; exact hcl
                  have HTB := Lib.hid (show T.length ≤ ne from by rw [HTL.out]; have := HCY.out.count; omega)
                  have HRG := Lib.hid (ring_any c AC nc cC _ hnc (by omega) hatC hcb hcn)
                  clear hcnt hb hla hNa hh hcn hcb hatC hnc hcl hC
                  go_wp2_with fail
                  refine HRG.out.mono ?_
                  rintro e w5 ⟨v, rfl, hE5, A', m', c', t, rfl, ht, hlen, hmn, hmc, hleast, hbox⟩
                  have HRA := Lib.hid (show RingAt E q (rot t (corn (lastD c) c)) from ⟨c, t, HEA.out, ht, rfl, hleast⟩)
                  have HRR := Lib.hid (show RingRow w5 ((A', m', c'), rot t (corn (lastD c) c)) from ⟨hlen, by dsimp only; omega, (fun e => by dsimp only at e; have := rot_length (Nat.le_of_lt ht); rw [e] at this; simp at this; omega), (fun x hx => by
                    obtain ⟨ej, h2, h3⟩ := List.mem_map.1 ((corn_sub _ _).subset (rot_mem.1 hx))
                    obtain ⟨a1, a2, _⟩ := HCB.out _ h2
                    rw [← h3]
                    exact ⟨a1, a2⟩), hbox⟩)
                  generalize rot t (corn (lastD c) c) = R at *
                  have hE6 := Ext.alloc w5 (.cells #[.slice A' m' c'] 48)
                  have hUA := Lib.hid ((hU.ext hE5).ext hE6)
                  have hOA := (hO.ext hE5).ext hE6
                  have hTA := Lib.hid (fun t ht => ((hT t ht).ext hE5).ext hE6)
                  have hRA := Lib.hid (HRR.out.ext hE6)
                  have hEA := (hE.trans hE5).trans hE6
                  have hrow := EL.rowOne (E := ptsE) (x := (A', m', c')) (Box.new w5 48 #[.slice A' m' c']) rfl
                  have hsz : g0 ≤ (w5.alloc (.cells #[.slice A' m' c'] 48)).heap.size := Nat.le_of_lt hUA.out.lt
                  have hll : (T.map (·.1)).length + ([(A', m', c')] : List Sl).length ≤ 1000000000 := by rw [List.length_map]; simp only [List.length_singleton]; have := HTB.out; omega
                  obtain ⟨TS, hTS⟩ : ∃ TS : List Sl, T.map (fun t => t.1) = TS := ⟨_, rfl⟩
                  have HTS := Lib.hid hTS
                  rw [hTS] at hOA hll
                  clear hU hO hT hE5 hE6 ht hlen hleast hbox hE HRG hTS
                  go_wp2_with (at_builtin; refine EL.wpApp ptsE rfl _ _ rfl g0 _ _ TS [(A', m', c')] rfl rfl hOA hrow hll hsz ?_; intro v1 W1 own1 gr1 _)
                  have hE7 := growExt hEA hOA (by rw [HG0.out]; exact Nat.le_refl _) gr1
                  have hU7 := own_kept hUA.out hOA (by decide) gr1
                  have hT7 := fun t ht => (hTA.out t ht).grown hOA (by decide) gr1
                  have hR7 := hRA.out.grown hOA (by decide) gr1
                  go_roundw
                  case rel => exact ⟨i0 + 1, cs ++ [q], T ++ [((A', m', c'), R)], used, by omega, by go_num, hE7, hU7, by rw [List.map_append, HTS.out]; exact own1, (fun t ht => by
                    rcases List.mem_append.1 ht with ht | ht
                    · exact hT7 t ht
                    · rw [List.mem_singleton.1 ht]; exact hR7), Lib.hid (by rw [List.length_append, List.length_append, HTL.out]; rfl), Lib.hid (fun k' q' hq' => by
                      rcases Nat.lt_or_ge k' cs.length with h | h
                      · rw [List.getElem?_append_left h] at hq'
                        obtain ⟨t', h1, h2⟩ := HTR.out k' q' hq'
                        exact ⟨t', by rw [List.getElem?_append_left (by rw [HTL.out]; exact h)]; exact h1, h2⟩
                      · rw [List.getElem?_append_right h] at hq'
                        have h0 : k' - cs.length = 0 := by have := (List.getElem?_eq_some_iff.1 hq').1; simp at this; omega
                        rw [h0] at hq'
                        simp at hq'
                        subst hq'
                        exact ⟨_, by rw [List.getElem?_append_right (by rw [HTL.out]; exact h), HTL.out, h0]; rfl, HRA.out⟩), HCY2⟩
                  case measure => simp [intOf]; omega
          · have di : ((i0 : Int) < (ne : Int)) = False := eq_false (by omega)
            have hcnt := HCY.out.count
            obtain ⟨N, hN⟩ : ∃ N, T.length = N := ⟨_, rfl⟩
            have hNb : N ≤ 2101248 := by rw [← hN, HTL.out]; omega
            have HTN := Lib.hid hN
            have hcnd : cs.flatten.Nodup := by have := HCY.out.inv.nodup; rwa [List.append_nil] at this
            have hcall : ∀ j, j < E.length → j ∈ cs.flatten := fun j hj => HCY.out.done j (by rw [HNE.out] at hj; omega)
            have hclt : ∀ j ∈ cs.flatten, j < E.length := fun j hj => by rw [HNE.out]; exact HCY.out.inv.lt j (List.mem_append_left _ hj)
            have hclen : (T.map (fun t => t.2)).length = cs.length := by rw [List.length_map, HTL.out]
            have hcR : ∀ (k : Nat) (q : List Nat), cs[k]? = some q → ∃ R, (T.map (fun t => t.2))[k]? = some R ∧ RingAt E q R := fun k' q' hq' => by
              obtain ⟨t, h1, h2⟩ := HTR.out k' q' hq'
              exact ⟨t.2, by rw [List.getElem?_map, h1]; rfl, h2⟩
            have hsum : OutSum L (T.map (fun t => t.2)) := by
              obtain ⟨q1, q2⟩ := out_sum HSY.out HCY.out.inv.cyc hcnd hcall hclt hclen hcR
              exact ⟨fun f hf => by rw [HEE.out]; exact q1 f hf, by have := HNE.out; omega⟩
            have HFIN := Lib.hid (fun (T' : List RSl) (hp : T'.Perm T) (hs : T'.Pairwise fun a b => ¬ aheadP (hd0 b.2) (hd0 a.2)) => show OutOf (inL l) (T'.map (fun t => t.2)) ∧ OutSum L (T'.map (fun t => t.2)) from ⟨HOUT.out cs (T.map (fun t => t.2)) (T'.map (fun t => t.2)) HCY.out.inv.cyc hcnd hcall hclen hcR (hp.map _) (by rw [List.pairwise_map]; exact hs), hsum.perm (hp.map _)⟩)
            clear hcnd hcall hclt hclen hcR hsum
            have HE2 := Lib.hid (hE1.trans hE)
            rcases Nat.eq_zero_or_pos N with h0 | h0
            · have hT0 : T = [] := List.eq_nil_of_length_eq_zero (by rw [hN]; exact h0)
              subst hT0
              have hO0 : ptsE.Own wr g0 u11 [] := hO
              obtain ⟨A9, c9, rfl, hc9, hat9⟩ := hO0.at (n := 0) rfl (by omega)
              clear hN hO hO0 hcnt h0 hT
              go_wp2_with fail
              refine (sortNone_any A9 c9 _).mono ?_
              rintro e w9 ⟨rfl, rfl⟩
              go_wp2
              exact bodyPost_ret (v := .tuple #[.slice A9 0 c9, .int .i64 0]) (by simp [results, Tryz.results6, go_sem, List.size_toArray]) rfl ⟨_, 0, rfl, HE2.out, L, HR.out, .inl ⟨HL.out, rfl, A9, 0, c9, [], rfl, rfl, by omega, hc9, hat9, (fun t h => absurd h List.not_mem_nil), (HFIN.out [] (List.Perm.refl _) List.Pairwise.nil).1, (HFIN.out [] (List.Perm.refl _) List.Pairwise.nil).2⟩⟩
            · have hO2 : ptsE.Own wr g0 u11 (T.map fun t => t.1) := hO
              obtain ⟨g, cap, rfl, hgB, hcap⟩ := hO2.head (by rw [List.length_map, hN]; exact h0)
              rw [List.length_map, hN] at hO2 hcap ⊢
              have HF := Lib.hid (fun t (ht : t ∈ T) => show FirstIs wr g (t.1, ((hd0 t.2).1 * 256, (hd0 t.2).2.1 * 256)) from by
                obtain ⟨r1, r2, r3, r4, r5⟩ := hT t ht
                obtain ⟨f, R', hR'⟩ : ∃ f R', t.2 = f :: R' := by
                  cases hq : t.2 with
                  | nil => exact absurd hq r3
                  | cons f R' => exact ⟨f, R', rfl⟩
                obtain ⟨g', cur, e, hbx, hcells⟩ := r5 (by rw [hR']; simp)
                obtain ⟨b1, b2⟩ := r4 f (by rw [hR']; exact List.mem_cons_self)
                have hc0 := hcells 0 (.int .i64 (f.1 * 256)) (by rw [hR']; rfl)
                have hc1 := hcells 1 (.int .i64 (f.2.1 * 256)) (by rw [hR']; rfl)
                have hh : hd0 t.2 = f := by rw [hR']; rfl
                rw [hh]
                refine ⟨g', 0, e, fun eg => ?_, ?_, ?_, ?_, by dsimp only; omega, by dsimp only; omega⟩
                · subst eg
                  obtain ⟨cur2, _, _, hb2, _⟩ := hO2.opened
                  have := hbx.symm.trans hb2
                  simp only [Option.some.injEq, Obj.cells.injEq] at this
                  exact absurd this.2.1 (by decide)
                · dsimp only; rw [← r1, hR']; simp
                · dsimp only; rw [hbx.cell]; exact hc0
                · dsimp only; rw [hbx.cell]; exact hc1)
              have HSRT := Lib.hid (sortRings_any (fun t : RSl => ((t.1, ((hd0 t.2).1 * 256, (hd0 t.2).2.1 * 256)) : SlP)) hO2 hN h0 (by omega) HF.out)
              have HO2 := Lib.hid hO2
              clear hN hO hO2 hcnt hcap
              go_wp2_with fail
              refine HSRT.out.mono ?_
              rintro e w9 ⟨rfl, T', hp, hs, own9, gr9⟩
              have hE9 := growExt (HE2.out.size |> fun _ => hE) HO2.out (by rw [HG0.out]; exact Nat.le_refl _) gr9
              have HT9 := Lib.hid (fun t (ht : t ∈ T') => (hT t (hp.subset ht)).grown HO2.out (by decide) gr9)
              have HLT := Lib.hid (show T'.length = N by rw [hp.length_eq]; exact HTN.out)
              have HOF := Lib.hid (HFIN.out T' hp (hs.imp fun {a b} h => by
                intro hk
                unfold aheadP at hk
                omega))
              obtain ⟨A9, c9, e9, hc9, hat9⟩ := own9.at (n := N) (by rw [List.length_map]; exact HLT.out) (by omega)
              simp only [Value.slice.injEq] at e9
              obtain ⟨rfl, _, rfl⟩ := e9
              clear hs hp gr9
              go_wp2
              exact bodyPost_ret (v := .tuple #[.slice (some ⟨g, 0, none⟩) N cap, .int .i64 0]) (by simp [results, Tryz.results6, go_sem, List.size_toArray]) rfl ⟨_, 0, rfl, hE1.trans hE9, L, HR.out, .inl ⟨HL.out, rfl, _, N, cap, T', rfl, HLT.out, by omega, hc9, hat9, HT9.out, HOF.out.1, HOF.out.2⟩⟩
end Go.Proofs.YtkjpcjmbhpfelaaGreat
