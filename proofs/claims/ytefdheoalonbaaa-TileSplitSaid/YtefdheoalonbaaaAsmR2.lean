/- The reference's Assemble: bitmaps that are valid. -/
import Derived.Test.YtefdheoalonbaaaAsmR
set_option linter.unusedVariables false
set_option linter.unusedSimpArgs false
namespace Go.Proofs.Ytefdheoalonbaaa
open Go.RowKit Go.Par

theorem own_lt {P : Program} {α : Type} {E : EL P α} {w : World} {B g : Nat} {v : Value} {l : List α} (h : E.Own w B v l) (hg : v.ownBlock = some g) : g < w.heap.size := by
  obtain ⟨_, cur, hc⟩ := ownBlock_cells h hg.symm
  exact (Array.getElem?_eq_some_iff.1 hc).1
theorem own_but2 {P : Program} {α : Type} {E : EL P α} {w w' : World} {B g : Nat} {v : Value} {l : List α} (h : E.Own w B v l) (hb : But g w w') (hne : v.ownBlock ≠ some g) : E.Own w' B v l := by
  rcases h.2 with ⟨e, h0⟩ | ⟨g2, cap, cur, e, h1, h2, rest⟩
  · exact ⟨h.1, .inl ⟨e, h0⟩⟩
  · refine ⟨h.1, .inr ⟨g2, cap, cur, e, h1, ?_, rest⟩⟩
    exact hb.box (t := E.t) (cs := cur) h2 (fun e2 => hne (by rw [e, e2]; rfl))
theorem pix_no {r : R4} {x y : Int} (h : rectHasS r x y = false) : pixS r x y = -1 := by unfold pixS; rw [h]; rfl
theorem pix_yes {b : BM} (hb : bmOk b = true) {x y : Int} (h : rectHasS b.1 x y = true) : ∃ k : Nat, pixS b.1 x y = k ∧ b.2[k]? = some (pixAt b x y) := by
  have h1 := pixAt_get hb h
  obtain ⟨x1, x2, x3, x4, x5⟩ := canon_has.1 h
  have := (pix_nat (r := b.1) (i := (x - b.1.1).toNat) (j := (y - b.1.2.1).toNat) x1 (by omega) (by omega)).2
  rw [show b.1.1 + ((x - b.1.1).toNat : Int) = x by omega, show b.1.2.1 + ((y - b.1.2.1).toNat : Int) = y by omega] at this
  exact ⟨(pixS b.1 x y).toNat, by omega, h1⟩
theorem asm_take {bs : List BM} {j : Nat} {b : BM} (hj : bs[j]? = some b) (p : XY) : cntAt (bs.take (j + 1)) p = cntAt (bs.take j) p + (if rectHasS b.1 p.1 p.2 then 1 else 0) ∧ lastAt (bs.take (j + 1)) p = if rectHasS b.1 p.1 p.2 then pixAt b p.1 p.2 else lastAt (bs.take j) p := by
  rw [List.take_add_one, hj]
  exact ⟨cntAt_snoc _ _ _, lastAt_snoc _ _ _⟩
theorem pxE_one {w : World} {b : Nat} {r g bb a : Int} (h : Box w b 41 #[.int .u8 r, .int .u8 g, .int .u8 bb, .int .u8 a]) : pixE.Row w (.slice (some ⟨b, 0, none⟩) 1 1) [(r, g, bb, a)] :=
  ⟨_, _, rfl, Nat.le_refl _, (by simp), EL.At.box h fun j v hv => by simpa [EL.cells, pixE] using hv⟩
/-- what holds when m pixels of the page are done -/
structure RsmI (x0 y0 x1 y1 : Int) (bs : List BM) (g7 : Nat) (w wr : World) (m : Nat) (v : Value) : Prop where
  hE : Ext w wr
  b2 : Box wr w.heap.size 23 #[.int .i64 x0, .int .i64 y0, .int .i64 x1, .int .i64 y1]
  b4 : Box wr (w.heap.size + 1) 34 #[.int .i64 0, .int .i64 0, .int .i64 0, .int .i64 0, .slice none 0 0]
  b7 : Box wr g7 34 #[.int .i64 x0, .int .i64 y0, .int .i64 x1, .int .i64 y1, v]
  oP : pixE.Own wr (g7 + 1) v (((coordsR (x0, y0, x1, y1)).take m).map (lastAt bs))
theorem RsmI.ext {x0 y0 x1 y1 : Int} {bs : List BM} {g7 : Nat} {w wr wr' : World} {m : Nat} {v : Value} (h : RsmI x0 y0 x1 y1 bs g7 w wr m v) (he : Ext wr wr') : RsmI x0 y0 x1 y1 bs g7 w wr' m v :=
  ⟨h.hE.trans he, h.b2.ext he, h.b4.ext he, h.b7.ext he, h.oP.ext he⟩
theorem RsmI.but {x0 y0 x1 y1 : Int} {bs : List BM} {g7 g : Nat} {w wr wr' : World} {m : Nat} {v : Value} (h : RsmI x0 y0 x1 y1 bs g7 w wr m v) (hb : But g wr wr') (hg : w.heap.size + 1 < g) (hg7 : g7 ≠ g) (hv : v.ownBlock ≠ some g) : RsmI x0 y0 x1 y1 bs g7 w wr' m v :=
  ⟨h.hE.but hb (by omega), hb.box h.b2 (by omega), hb.box h.b4 (by omega), hb.box h.b7 hg7, own_but2 h.oP hb hv⟩
theorem RsmI.next {x0 y0 x1 y1 : Int} {bs : List BM} {g7 : Nat} {w wX W1 : World} {m m' n1 cp1 : Nat} {v : Value} {A1 : Option Addr} {old new : List P4} (h : RsmI x0 y0 x1 y1 bs g7 w wX m v) (hown : pixE.Own wX (g7 + 1) v old) (own1 : pixE.Own W1 (g7 + 1) (.slice A1 n1 cp1) new) (gr1 : wX.grownBy W1 v.ownBlock)
    (hnew : new = ((coordsR (x0, y0, x1, y1)).take m').map (lastAt bs)) (hg : w.heap.size + 1 < g7) : RsmI x0 y0 x1 y1 bs g7 w (W1.setCell ⟨g7, 4, none⟩ (.slice A1 n1 cp1)) m' (.slice A1 n1 cp1) := by
  have n7 : v.ownBlock ≠ some g7 := hown.ne (Nat.lt_succ_self _)
  have n2 : v.ownBlock ≠ some w.heap.size := hown.ne (by omega)
  have n4 : v.ownBlock ≠ some (w.heap.size + 1) := hown.ne (by omega)
  have hbt := (But.refl g7 W1).set 4 (.slice A1 n1 cp1)
  refine ⟨(growExt h.hE hown (by omega) gr1).but hbt (by omega), hbt.box (boxGrown h.b2 gr1 n2) (by omega), hbt.box (boxGrown h.b4 gr1 n4) (by omega), by simpa using (boxGrown h.b7 gr1 n7).set 4 (.slice A1 n1 cp1), ?_⟩
  rw [← hnew]
  exact own1.but hbt (Nat.lt_succ_self _)
set_option maxRecDepth 100000 in
set_option maxHeartbeats 1600000 in
theorem rAsmMain_any (x0 y0 x1 y1 : Int) (A : Option Addr) (c n : Nat) (ss : List BS) (bs : List BM) (w : World) (hn : ss.length = n) (hb : n ≤ 17592186044416) (hat : bmE.At w A ss) (hbs : BmsOf w ss bs) (hem : rectEmptyS (x0, y0, x1, y1) = false) (har : areaR (x0, y0, x1, y1) ≤ 65536)
    (hall : bs.all bmOk = true) :
    Calls Try.prog 28 #[.agg #[.int .i64 x0, .int .i64 y0, .int .i64 x1, .int .i64 y1], .slice A n c] w fun e w' => ∃ q0 q1 q2 q3 v, e = .returned (.tuple #[.agg #[.int .i64 q0, .int .i64 q1, .int .i64 q2, .int .i64 q3, v], .int .i64 (asmCode (x0, y0, x1, y1) bs)]) ∧ Ext w w' ∧
      (asmCode (x0, y0, x1, y1) bs = 0 → (q0, q1, q2, q3) = (x0, y0, x1, y1) ∧ pixE.Own w' w.heap.size v (asmP (x0, y0, x1, y1) bs)) ∧
      (asmCode (x0, y0, x1, y1) bs ≠ 0 → (q0, q1, q2, q3) = (0, 0, 0, 0) ∧ v = .slice none 0 0) := by
  have HV := Lib.hid (fun W => rectEmpty_any x0 y0 x1 y1 W)
  have HA := Lib.hid (fun W => rArea_any x0 y0 x1 y1 W)
  rw [hem] at HV
  have hcan := canon_self hem
  have hbd := areaR_bd (x0, y0, x1, y1)
  have hcl := coords_length hcan
  obtain ⟨g1, g2, g3, g4, g5, g6⟩ := empty_false hem
  dsimp only at g1 g2 g3 g4 g5 g6
  generalize hNN : (coordsR (x0, y0, x1, y1)).length = N at *
  rw [← hcl] at HA hbd har
  have HNL := Lib.hid hNN
  have hwn : ((x1 - x0).toNat : Int) = x1 - x0 := by omega
  have hhn : ((y1 - y0).toNat : Int) = y1 - y0 := by omega
  have hco : coordsR (x0, y0, x1, y1) = gridXY x0 y0 (x1 - x0).toNat (y1 - y0).toNat := rfl
  generalize (x1 - x0).toNat = WD at *
  generalize (y1 - y0).toNat = HT at *
  have HCO := Lib.hid hco
  have HN := Lib.hid hn
  have HBL := Lib.hid (show bs.length = n from by rw [← hbs.1]; exact hn)
  have HOK := Lib.hid (show ∀ (j : Nat) (b : BM), bs[j]? = some b → bmOk b = true from fun j b hj => List.all_eq_true.1 hall b (List.mem_of_getElem? hj))
  clear hem hn hall hNN hcl hco hcan
  go_enter Try.func28, Try.ntmps28
  have b2 := (Box.new w 23 #[.int .i64 x0, .int .i64 y0, .int .i64 x1, .int .i64 y1]).alloc (.cells #[.int .i64 0, .int .i64 0, .int .i64 0, .int .i64 0, .slice none 0 0] 34)
  have b4 := Box.at1 (w := w) (o := .cells #[.int .i64 x0, .int .i64 y0, .int .i64 x1, .int .i64 y1] 23) (t := 34) (cs := #[.int .i64 0, .int .i64 0, .int .i64 0, .int .i64 0, .slice none 0 0])
  have hE := (Ext.alloc w (.cells #[.int .i64 x0, .int .i64 y0, .int .i64 x1, .int .i64 y1] 23)).trans (Ext.alloc _ (.cells #[.int .i64 0, .int .i64 0, .int .i64 0, .int .i64 0, .slice none 0 0] 34))
  go_wp2_with fail
  refine (HV.out _).mono ?_
  rintro e w1 ⟨rfl, hE1⟩
  replace b2 := b2.ext hE1
  replace b4 := b4.ext hE1
  replace hE := hE.trans hE1
  clear hE1
  have c2 := b2.cell
  go_wp2_with fail
  refine (HA.out _).mono ?_
  rintro e w2 ⟨rfl, hE1⟩
  replace b2 := b2.ext hE1
  replace b4 := b4.ext hE1
  replace hE := hE.trans hE1
  clear c2 hE1 HV
  have d1 : ((65536 : Int) < (N : Int)) = False := eq_false (by omega)
  go_wp2_with fail
  clear d1
  go_loopw [6] (fun i wr => ∃ k : Nat, k ≤ n ∧ i = .int .i64 k ∧ Ext w2 wr) (fun i _ => n - (intOf i).toNat)
  case atStart => exact ⟨0, Nat.zero_le _, rfl, Ext.refl _⟩
  case round =>
    obtain ⟨k, hk, rfl, hE3⟩ := hrel
    by_cases hlt : k < n
    · obtain ⟨⟨⟨r0, r1, r2, r3⟩, l⟩, hbk⟩ : ∃ q, bs[k]? = some q := ⟨_, List.getElem?_eq_getElem (by rw [HBL.out]; exact hlt)⟩
      obtain ⟨⟨q, A1, n1, c1⟩, hsk, k1, k2, k3, k4, k5⟩ := hbs.2 k _ hbk
      dsimp only at k1 k2 k3 k4 k5
      subst k1
      obtain ⟨bb, o, rfl, hcell⟩ := hat (fun e => by rw [e] at hsk; simp at hsk)
      obtain ⟨e0, e1, e2, e3, e4⟩ := bm_cells hcell hsk
      have hEE := hE.trans hE3
      replace e0 := hEE.cell e0
      replace e1 := hEE.cell e1
      replace e2 := hEE.cell e2
      replace e3 := hEE.cell e3
      replace e4 := hEE.cell e4
      dsimp only at e0 e1 e2 e3 e4
      have HVV := Lib.hid (fun W (k : Ext w W) => rBmValid_any r0 r1 r2 r3 A1 c1 n1 l W k2.symm (by omega) (k5.ext k))
      rw [HOK.out k _ hbk] at HVV
      clear hcell hsk hbk k2 k3 k4 k5
      go_wp2_with fail
      refine (HVV.out _ hEE).mono ?_
      rintro e w3 ⟨rfl, hE4⟩
      go_wp2
      go_roundw
      case rel => exact ⟨k + 1, by omega, by go_num, hE3.trans hE4⟩
      case measure => simp [intOf]; omega
    · have hkn : k = n := by omega
      subst hkn
      have dk : ((k : Int) < (k : Int)) = False := eq_false (by omega)
      replace b2 := b2.ext hE3
      replace b4 := b4.ext hE3
      replace hE := hE.trans hE3
      have hsw := b4.lt
      have c2 := b2.cell
      clear hE3 hlt hk
      go_wp2_with fail
      have b7 := Box.new wr 34 #[.int .i64 x0, .int .i64 y0, .int .i64 x1, .int .i64 y1, .slice none 0 0]
      have hI0 : RsmI x0 y0 x1 y1 bs wr.heap.size w (wr.alloc (.cells #[.int .i64 x0, .int .i64 y0, .int .i64 x1, .int .i64 y1, .slice none 0 0] 34)) (0 * WD) (.slice none 0 0) :=
        ⟨hE.trans (Ext.alloc _ _), b2.alloc _, b4.alloc _, b7, by rw [Nat.zero_mul]; exact EL.Own.nil _ _⟩
      generalize hw5 : World.alloc wr _ = w5 at *
      generalize hB7 : wr.heap.size = B7 at *
      clear hw5 hB7 hE b2 b4 c2 b7 HA dk
      have HZ0 := Lib.hid (show ∀ p ∈ (coordsR (x0, y0, x1, y1)).take (0 * WD), cntAt bs p ≠ 0 from fun p hp => by rw [Nat.zero_mul] at hp; cases hp)
      go_loopw [8, 9] (fun tw y wr => ∃ (jy : Nat) (v : Value), jy ≤ HT ∧ y = .int .i64 (y0 + jy) ∧ tw = .bool (((coordsR (x0, y0, x1, y1)).take (jy * WD)).any (fun p => decide (1 < cntAt bs p))) ∧ Hid (∀ p ∈ (coordsR (x0, y0, x1, y1)).take (jy * WD), cntAt bs p ≠ 0) ∧ RsmI x0 y0 x1 y1 bs B7 w wr (jy * WD) v) (fun _ y _ => HT - (intOf y - y0).toNat)
      case atStart => exact ⟨0, _, Nat.zero_le _, by simp, by simp, HZ0, hI0⟩
      case round =>
        obtain ⟨jy, v, hjy, rfl, rfl, HZ, hI⟩ := hrel
        have c2 := hI.b2.cell
        by_cases hlty : jy < HT
        · have dy : (y0 + (jy : Int) < y1) = True := eq_true (by omega)
          go_wp2_with fail
          clear c2 dy
          have HZ' : Hid (∀ p ∈ (coordsR (x0, y0, x1, y1)).take (jy * WD + 0), cntAt bs p ≠ 0) := HZ
          have hI' : RsmI x0 y0 x1 y1 bs B7 w wr (jy * WD + 0) v := hI
          go_loopw [8, 10] (fun tw x wr => ∃ (jx : Nat) (v : Value), jx ≤ WD ∧ x = .int .i64 (x0 + jx) ∧ tw = .bool (((coordsR (x0, y0, x1, y1)).take (jy * WD + jx)).any (fun p => decide (1 < cntAt bs p))) ∧ Hid (∀ p ∈ (coordsR (x0, y0, x1, y1)).take (jy * WD + jx), cntAt bs p ≠ 0) ∧ RsmI x0 y0 x1 y1 bs B7 w wr (jy * WD + jx) v) (fun _ x _ => WD - (intOf x - x0).toNat)
          case atStart => exact ⟨0, _, Nat.zero_le _, by simp, rfl, HZ', hI'⟩
          case round =>
            clear HZ' hI' HZ hI
            obtain ⟨jx, v, hjx, rfl, rfl, HZ, hI⟩ := hrel
            have c2 := hI.b2.cell
            by_cases hltx : jx < WD
            · have dx : (x0 + (jx : Int) < x1) = True := eq_true (by omega)
              have hcp : (coordsR (x0, y0, x1, y1))[jy * WD + jx]? = some (x0 + (jx : Int), y0 + (jy : Int)) := by rw [HCO.out]; exact gridXY_get hltx hlty
              have HCP := Lib.hid hcp
              clear hcp
              go_wp2_with fail
              clear c2 dx
              have hv12 : v.ownBlock ≠ some wr.heap.size := fun e => by have := own_lt hI.oP e; omega
              have h712 : B7 ≠ wr.heap.size := by have := hI.b7.lt; omega
              have h412 : w.heap.size + 1 < wr.heap.size := hI.b4.lt
              have b12 := Box.new wr 41 #[.int .u8 0, .int .u8 0, .int .u8 0, .int .u8 0]
              have hI1 := hI.ext (Ext.alloc wr (.cells #[.int .u8 0, .int .u8 0, .int .u8 0, .int .u8 0] 41))
              have hAlloc := Ext.alloc wr (.cells #[.int .u8 0, .int .u8 0, .int .u8 0, .int .u8 0] 41)
              generalize hw6 : World.alloc wr _ = w6 at *
              generalize hB12 : wr.heap.size = B12 at *
              have hs12 := b12.lt
              clear hw6 hI hAlloc
              generalize hpp : ((x0 + (jx : Int), y0 + (jy : Int)) : XY) = pp at *
              have HPP := Lib.hid hpp
              clear hpp
              go_loopw [11, 13, 14] (fun cv i _ wr => ∃ j : Nat, j ≤ k ∧ i = .int .i64 j ∧ cv = .int .i64 (cntAt (bs.take j) pp) ∧ But B12 w6 wr ∧ Box wr B12 41 #[.int .u8 (lastAt (bs.take j) pp).1, .int .u8 (lastAt (bs.take j) pp).2.1, .int .u8 (lastAt (bs.take j) pp).2.2.1, .int .u8 (lastAt (bs.take j) pp).2.2.2]) (fun _ i _ _ => k - (intOf i).toNat)
              case atStart => exact ⟨0, Nat.zero_le _, rfl, rfl, But.refl _ _, b12⟩
              case round =>
                obtain ⟨j, hj, rfl, rfl, hBt, b12⟩ := hrel
                by_cases hltj : j < k
                · have dj : ((j : Int) < (k : Int)) = True := eq_true (by omega)
                  obtain ⟨bm, hbk⟩ : ∃ q, bs[j]? = some q := ⟨_, List.getElem?_eq_getElem (by rw [HBL.out]; exact hltj)⟩
                  obtain ⟨t1, t2⟩ := asm_take hbk pp
                  have HT1 := Lib.hid t1
                  have HT2 := Lib.hid t2
                  clear t1 t2
                  have hok := HOK.out j _ hbk
                  have hcb := cntAt_le (bs.take j) pp
                  have htl : (bs.take j).length ≤ j := by rw [List.length_take]; omega
                  obtain ⟨⟨r0, r1, r2, r3⟩, l⟩ := bm
                  obtain ⟨⟨q, A1, n1, c1⟩, hsk, k1, k2, k3, k4, k5⟩ := hbs.2 j _ hbk
                  dsimp only at k1 k2 k3 k4 k5
                  subst k1
                  obtain ⟨bb, o, rfl, hcell⟩ := hat (fun e => by rw [e] at hsk; simp at hsk)
                  obtain ⟨e0, e1, e2, e3, e4⟩ := bm_cells hcell hsk
                  have hEE := hI1.hE.but hBt (by omega)
                  replace e0 := hEE.cell e0
                  replace e1 := hEE.cell e1
                  replace e2 := hEE.cell e2
                  replace e3 := hEE.cell e3
                  replace e4 := hEE.cell e4
                  dsimp only at e0 e1 e2 e3 e4
                  have HP := Lib.hid (fun W => rPixIx_any r0 r1 r2 r3 (x0 + (jx : Int)) (y0 + (jy : Int)) W)
                  have HPX := Lib.hid k2
                  have hpp := HPP.out
                  cases hh : rectHasS (r0, r1, r2, r3) pp.1 pp.2
                  · have HF := Lib.hid (show cntAt (bs.take (j + 1)) pp = cntAt (bs.take j) pp ∧ lastAt (bs.take (j + 1)) pp = lastAt (bs.take j) pp from by
                      rw [HT1.out, HT2.out]
                      dsimp only
                      rw [hh]
                      exact ⟨by simp, by simp⟩)
                    rw [← hpp] at hh
                    rw [pix_no hh] at HP
                    clear hcell hsk hbk k2 k3 k4 hh hpp
                    go_wp2_with fail
                    refine (HP.out _).mono ?_
                    rintro e w7 ⟨rfl, hE7⟩
                    go_wp2_with fail
                    go_roundw
                    case rel => exact ⟨j + 1, by omega, by go_num, by rw [HF.out.1], hBt.trans (But.of_ext hE7), by rw [HF.out.2]; exact b12.ext hE7⟩
                    case measure => simp [intOf]; omega
                  · rw [← hpp] at hh
                    obtain ⟨kk, hkk, hpxk⟩ := pix_yes hok hh
                    dsimp only at hkk hpxk
                    rw [hkk] at HP
                    have hkl : kk < n1 := by rw [k2]; exact (List.getElem?_eq_some_iff.1 hpxk).1
                    have HF := Lib.hid (show cntAt (bs.take (j + 1)) pp = cntAt (bs.take j) pp + 1 ∧ lastAt (bs.take (j + 1)) pp = pixAt ((r0, r1, r2, r3), l) (x0 + (jx : Int)) (y0 + (jy : Int)) from by
                      rw [HT1.out, HT2.out]
                      dsimp only
                      rw [← hpp]
                      dsimp only
                      rw [hh]
                      exact ⟨by simp, by simp⟩)
                    generalize pixAt ((r0, r1, r2, r3), l) (x0 + (jx : Int)) (y0 + (jy : Int)) = px at *
                    obtain ⟨pr, pg, pb, pa⟩ := px
                    obtain ⟨bb2, o2, rfl, hcell2⟩ := k5 (fun e => by rw [e] at hpxk; simp at hpxk)
                    obtain ⟨f0, f1, f2, f3⟩ := pix_cells hcell2 hpxk
                    dsimp only at f0 f1 f2 f3
                    have qc : IntKind.i64.wrap (cntAt (bs.take j) pp + 1) = cntAt (bs.take j) pp + 1 := IntWalk.i64_in _ (by omega)
                    clear hcell hcell2 hsk hbk k2 k3 k4 hh hpp hpxk hkk hcb htl
                    go_wp2_with fail
                    refine (HP.out _).mono ?_
                    rintro e w7 ⟨rfl, hE7⟩
                    have hEF := hEE.trans hE7
                    replace e0 := hE7.cell e0
                    replace e1 := hE7.cell e1
                    replace e2 := hE7.cell e2
                    replace e3 := hE7.cell e3
                    replace e4 := hE7.cell e4
                    replace f0 := hEF.cell f0
                    replace f1 := hEF.cell f1
                    replace f2 := hEF.cell f2
                    replace f3 := hEF.cell f3
                    have b12' := b12.ext hE7
                    have c12 := b12'.cell
                    have z12 := b12'.frozen
                    have hBt' := hBt.trans (But.of_ext hE7)
                    clear b12 hEF
                    go_wp2_with fail
                    go_roundw
                    case rel => exact ⟨j + 1, by omega, by go_num, by rw [HF.out.1], (((hBt'.set 0 _).set 1 _).set 2 _).set 3 _, by rw [HF.out.2]; exact b12'.set4 _ _ _ _⟩
                    case measure => simp [intOf]; omega
                · have hjk : j = k := by omega
                  subst hjk
                  have dj : ((j : Int) < (j : Int)) = False := eq_false (by omega)
                  have htk : bs.take j = bs := List.take_of_length_le (Nat.le_of_eq HBL.out)
                  rw [htk] at b12 ⊢
                  clear htk
                  have hI2 := hI1.but hBt h412 h712 hv12
                  have hcb := (cntAt_le bs pp).1
                  have hcb2 := (cntAt_le bs pp).2
                  rw [HBL.out] at hcb2
                  have HS1 := Lib.hid (show (coordsR (x0, y0, x1, y1)).take (jy * WD + jx + 1) = (coordsR (x0, y0, x1, y1)).take (jy * WD + jx) ++ [pp] from by rw [List.take_add_one, HCP.out]; rfl)
                  have hE2 := hI2.hE
                  by_cases hcz : cntAt bs pp = 0
                  · have HR := Lib.hid (show asmCode (x0, y0, x1, y1) bs = 8 from by
                      unfold asmCode
                      rw [if_pos]
                      rw [List.any_eq_true]
                      exact ⟨pp, List.mem_of_getElem? HCP.out, decide_eq_true hcz⟩)
                    rw [hcz]
                    have c4 := hI2.b4.cell
                    have f4 := hI2.b4.frozen
                    clear hcz
                    go_wp2
                    exact bodyPost_ret (v := .tuple #[.agg #[.int .i64 0, .int .i64 0, .int .i64 0, .int .i64 0, .slice none 0 0], .int .i64 8]) (by simp [results, Try.results28, go_sem, List.size_toArray, c4, f4]) rfl ⟨0, 0, 0, 0, .slice none 0 0, by rw [HR.out], hE2.set5 (by omega) _ _ _ _ _, (fun h => absurd (HR.out.symm.trans h) (by decide)), fun _ => ⟨rfl, rfl⟩⟩
                  · have HZN := Lib.hid (show ∀ p ∈ (coordsR (x0, y0, x1, y1)).take (jy * WD + (jx + 1)), cntAt bs p ≠ 0 from fun p hp => by
                      rw [show jy * WD + (jx + 1) = jy * WD + jx + 1 by omega, HS1.out] at hp
                      rcases List.mem_append.1 hp with h | h
                      · exact HZ.out p h
                      · rw [List.mem_singleton.1 h]; exact hcz)
                    have HAN := Lib.hid (show ((coordsR (x0, y0, x1, y1)).take (jy * WD + (jx + 1))).any (fun p => decide (1 < cntAt bs p)) = (((coordsR (x0, y0, x1, y1)).take (jy * WD + jx)).any (fun p => decide (1 < cntAt bs p)) || decide (1 < cntAt bs pp)) from by
                      rw [show jy * WD + (jx + 1) = jy * WD + jx + 1 by omega, HS1.out, List.any_append]; simp)
                    have HMN := Lib.hid (show ((coordsR (x0, y0, x1, y1)).take (jy * WD + jx)).map (lastAt bs) ++ [lastAt bs pp] = ((coordsR (x0, y0, x1, y1)).take (jy * WD + (jx + 1))).map (lastAt bs) from by
                      rw [show jy * WD + (jx + 1) = jy * WD + jx + 1 by omega, HS1.out, List.map_append]; rfl)
                    have dcz : (cntAt bs pp == 0) = false := by simpa using hcz
                    have hown := hI2.oP
                    have HLL := Lib.hid (show (((coordsR (x0, y0, x1, y1)).take (jy * WD + jx)).map (lastAt bs)).length + ([lastAt bs pp] : List P4).length ≤ 1000000000 from by
                      rw [List.length_map, List.length_take, HNL.out]; simp; omega)
                    obtain ⟨Av, cv, hvs, _, _⟩ := hown.len
                    generalize hlen : (((coordsR (x0, y0, x1, y1)).take (jy * WD + jx)).map (lastAt bs)).length = lenv at *
                    subst hvs
                    generalize hold : ((coordsR (x0, y0, x1, y1)).take (jy * WD + jx)).map (lastAt bs) = old at *
                    generalize hcc : cntAt bs pp = cc at *
                    generalize hla : lastAt bs pp = la at *
                    obtain ⟨pr, pg, pb, pa⟩ := la
                    dsimp only at b12
                    have hEX := Ext.alloc wr (.cells #[.int .u8 pr, .int .u8 pg, .int .u8 pb, .int .u8 pa] 41)
                    have bX := Box.new wr 41 #[.int .u8 pr, .int .u8 pg, .int .u8 pb, .int .u8 pa]
                    have hI3 := hI2.ext hEX
                    have hrow := pxE_one bX
                    have hownX := hown.ext hEX
                    have hb7X := hI3.b7
                    have hne7 : (Value.slice Av lenv cv).ownBlock ≠ some B7 := hownX.ne (Nat.lt_succ_self _)
                    have hne2 : (Value.slice Av lenv cv).ownBlock ≠ some w.heap.size := hownX.ne (by omega)
                    have hne4 : (Value.slice Av lenv cv).ownBlock ≠ some (w.heap.size + 1) := hownX.ne (by omega)
                    have c7 := hI2.b7.cell
                    have c12 := b12.cell
                    have hsz7 := hb7X.lt
                    have HLEN := Lib.hid hlen
                    clear hold hcc hla hlen bX hown
                    cases htw : ((coordsR (x0, y0, x1, y1)).take (jy * WD + jx)).any (fun p => decide (1 < cntAt bs p))
                    · rw [htw, Bool.false_or] at HAN
                      by_cases hc1 : 1 < cc
                      · have dc1 : (1 < cc) = True := eq_true hc1
                        rw [decide_eq_true hc1] at HAN
                        go_wp2_with (at_builtin; refine EL.wpApp pixE rfl _ _ rfl (B7 + 1) (.slice Av lenv cv) _ old [(pr, pg, pb, pa)] rfl rfl hownX hrow (by rw [HLEN.out]; exact HLL.out) (by omega) ?_; intro v1 W1 own1 gr1 _; obtain ⟨A1, cp1, rfl, _, _⟩ := own1.len; have f7 := (boxGrown hb7X gr1 hne7).frozen; have k7 := (boxGrown hb7X gr1 hne7).cell)
                        have hnx := hI3.next (m' := jy * WD + (jx + 1)) hownX own1 gr1 HMN.out hsw
                        have he : (old ++ [(pr, pg, pb, pa)]).length = old.length + 1 := by simp
                        rw [he] at hnx
                        clear he own1 f7 k7 gr1 hI3 hI2 hI1 hrow hownX hb7X hne7 hne2 hne4 c7 c12 hsz7 hEX
                        go_roundw
                        case rel => exact ⟨jx + 1, .slice A1 (old.length + 1) cp1, by omega, by go_num, by rw [HAN.out], HZN, hnx⟩
                        case measure => simp [intOf]; omega
                      · have dc1 : (1 < cc) = False := eq_false hc1
                        rw [decide_eq_false hc1] at HAN
                        go_wp2_with (at_builtin; refine EL.wpApp pixE rfl _ _ rfl (B7 + 1) (.slice Av lenv cv) _ old [(pr, pg, pb, pa)] rfl rfl hownX hrow (by rw [HLEN.out]; exact HLL.out) (by omega) ?_; intro v1 W1 own1 gr1 _; obtain ⟨A1, cp1, rfl, _, _⟩ := own1.len; have f7 := (boxGrown hb7X gr1 hne7).frozen; have k7 := (boxGrown hb7X gr1 hne7).cell)
                        have hnx := hI3.next (m' := jy * WD + (jx + 1)) hownX own1 gr1 HMN.out hsw
                        have he : (old ++ [(pr, pg, pb, pa)]).length = old.length + 1 := by simp
                        rw [he] at hnx
                        clear he own1 f7 k7 gr1 hI3 hI2 hI1 hrow hownX hb7X hne7 hne2 hne4 c7 c12 hsz7 hEX
                        go_roundw
                        case rel => exact ⟨jx + 1, .slice A1 (old.length + 1) cp1, by omega, by go_num, by rw [HAN.out], HZN, hnx⟩
                        case measure => simp [intOf]; omega
                    · rw [htw, Bool.true_or] at HAN
                      go_wp2_with (at_builtin; refine EL.wpApp pixE rfl _ _ rfl (B7 + 1) (.slice Av lenv cv) _ old [(pr, pg, pb, pa)] rfl rfl hownX hrow (by rw [HLEN.out]; exact HLL.out) (by omega) ?_; intro v1 W1 own1 gr1 _; obtain ⟨A1, cp1, rfl, _, _⟩ := own1.len; have f7 := (boxGrown hb7X gr1 hne7).frozen; have k7 := (boxGrown hb7X gr1 hne7).cell)
                      have hnx := hI3.next (m' := jy * WD + (jx + 1)) hownX own1 gr1 HMN.out hsw
                      have he : (old ++ [(pr, pg, pb, pa)]).length = old.length + 1 := by simp
                      rw [he] at hnx
                      clear he own1 f7 k7 gr1 hI3 hI2 hI1 hrow hownX hb7X hne7 hne2 hne4 c7 c12 hsz7 hEX
                      go_roundw
                      case rel => exact ⟨jx + 1, .slice A1 (old.length + 1) cp1, by omega, by go_num, by rw [HAN.out], HZN, hnx⟩
                      case measure => simp [intOf]; omega
            · have hx : jx = WD := by omega
              subst hx
              have dx : (x0 + (jx : Int) < x1) = False := eq_false (by omega)
              have em : jy * jx + jx = (jy + 1) * jx := by rw [Nat.add_mul, Nat.one_mul]
              rw [em] at HZ hI
              have HEM := Lib.hid em
              clear em
              go_wp2_with fail
              go_roundw
              case rel => exact ⟨jy + 1, v, by omega, by go_num, by rw [HEM.out], HZ, hI⟩
              case measure => simp [intOf]; omega
        · have hy : jy = HT := by omega
          subst hy
          have dy : (y0 + (jy : Int) < y1) = False := eq_false (by omega)
          have htk : (coordsR (x0, y0, x1, y1)).take (jy * WD) = coordsR (x0, y0, x1, y1) := List.take_of_length_le (by rw [HCO.out, gridXY_length]; exact Nat.le_refl _)
          have oP := hI.oP
          have hE := hI.hE
          have c4 := hI.b4.cell
          have f4 := hI.b4.frozen
          have c7 := hI.b7.cell
          obtain ⟨Av, cv, rfl, _, _⟩ := oP.len
          generalize hnv : (((coordsR (x0, y0, x1, y1)).take (jy * WD)).map (lastAt bs)).length = nv at *
          rw [htk] at oP HZ
          have HNZ := Lib.hid (show (coordsR (x0, y0, x1, y1)).any (fun p => decide (cntAt bs p = 0)) = false from by
            rw [List.any_eq_false]
            intro p hp
            have := HZ.out p hp
            simpa using this)
          rw [htk]
          clear htk HZ hnv
          cases htw : (coordsR (x0, y0, x1, y1)).any (fun p => decide (1 < cntAt bs p))
          · have HR := Lib.hid (show asmCode (x0, y0, x1, y1) bs = 0 from by unfold asmCode; rw [HNZ.out, htw]; rfl)
            clear htw
            go_wp2
            exact bodyPost_ret (v := .tuple #[.agg #[.int .i64 x0, .int .i64 y0, .int .i64 x1, .int .i64 y1, .slice Av nv cv], .int .i64 0]) (by simp [results, Try.results28, go_sem, List.size_toArray, c4, f4]) rfl ⟨x0, y0, x1, y1, _, by rw [HR.out], hE.set5 (by omega) _ _ _ _ _, fun _ => ⟨rfl, ((oP.but ((((((But.refl (w.heap.size + 1) wr).set 0 _).set 1 _).set 2 _).set 3 _).set 4 _) (by omega))).lower (by omega)⟩, fun h => absurd HR.out h⟩
          · have HR := Lib.hid (show asmCode (x0, y0, x1, y1) bs = 7 from by unfold asmCode; rw [HNZ.out, htw]; rfl)
            clear htw
            go_wp2
            exact bodyPost_ret (v := .tuple #[.agg #[.int .i64 0, .int .i64 0, .int .i64 0, .int .i64 0, .slice none 0 0], .int .i64 7]) (by simp [results, Try.results28, go_sem, List.size_toArray, c4, f4]) rfl ⟨0, 0, 0, 0, .slice none 0 0, by rw [HR.out], hE.set5 (by omega) _ _ _ _ _, (fun h => absurd (HR.out.symm.trans h) (by decide)), fun _ => ⟨rfl, rfl⟩⟩
end Go.Proofs.Ytefdheoalonbaaa
