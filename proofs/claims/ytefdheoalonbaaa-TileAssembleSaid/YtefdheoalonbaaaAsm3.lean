/- tile.Assemble: bitmaps that are valid. -/
import Derived.Test.YtefdheoalonbaaaAsm2
set_option linter.unusedVariables false
set_option linter.unusedSimpArgs false
namespace Go.Proofs.Ytefdheoalonbaaa
open Go.RowKit Go.Par

theorem pix_zeros {cs : Array Value} {N : Nat} (h : cs = madeCells pixE.zero.cells (N * 4)) : ∀ (j : Nat) (v : Value), (pixE.cells (List.replicate N (0, 0, 0, 0)))[j]? = some v → cs[j]? = some v := fun j v hv => by
  obtain ⟨i, o, x, hx, hv2, rfl, ho⟩ := pixE.cells_at' hv
  have ho4 : o < 4 := ho
  have hi := (List.getElem?_eq_some_iff.1 hx).1
  rw [List.length_replicate] at hi
  rw [List.getElem?_replicate, if_pos hi] at hx
  injection hx with hx
  subst hx
  have e4 : pixE.size = 4 := rfl
  have hz : pixE.zero.cells = #[.int .u8 0, .int .u8 0, .int .u8 0, .int .u8 0] := rfl
  have hve : v = .int .u8 0 := by
    rcases (by omega : o = 0 ∨ o = 1 ∨ o = 2 ∨ o = 3) with rfl | rfl | rfl | rfl <;> simpa [pixE] using hv2.symm
  subst hve
  rw [h, hz, e4]
  unfold madeCells
  rw [Array.getElem?_map, Array.getElem?_range, if_pos (by omega)]
  show some _ = some _
  congr 1
  have : (i * 4 + o) % 4 < 4 := Nat.mod_lt _ (by omega)
  show (#[Value.int .u8 0, .int .u8 0, .int .u8 0, .int .u8 0] : Array Value)[(i * 4 + o) % 4]! = _
  generalize (i * 4 + o) % 4 = r at *
  rcases (by omega : r = 0 ∨ r = 1 ∨ r = 2 ∨ r = 3) with rfl | rfl | rfl | rfl <;> rfl
theorem int_zeros {cs : Array Value} {N : Nat} (h : cs = madeCells intE.zero.cells (N * 1)) : ∀ (j : Nat) (v : Value), (intE.cells (List.replicate N 0))[j]? = some v → cs[j]? = some v := fun j v hv => by
  rw [intE_cells, List.getElem?_map] at hv
  rw [Nat.mul_one] at h
  by_cases hj : j < N
  · rw [List.getElem?_replicate, if_pos hj] at hv
    have hve : v = .int .i64 0 := by simpa using hv.symm
    subst hve
    rw [h]
    unfold madeCells
    rw [Array.getElem?_map, Array.getElem?_range, if_pos hj]
    show some _ = some _
    congr 1
    show (#[Value.int .i64 0] : Array Value)[j % 1]! = _
    rw [Nat.mod_one]; rfl
  · rw [List.getElem?_replicate, if_neg hj] at hv; cases hv
theorem own_butne {P : Program} {α : Type} {E : EL P α} {w w' : World} {B g g2 n c : Nat} {l : List α} (h : E.Own w B (.slice (some ⟨g2, 0, none⟩) n c) l) (hb : But g w w') (hne : g2 ≠ g) : E.Own w' B (.slice (some ⟨g2, 0, none⟩) n c) l := by
  obtain ⟨cur, hl, h1, h2, h3, h4, h5, h6⟩ := h.opened
  exact EL.Own.mk hl h1 (hb.box h2 hne) h3 h4 h5 h6
theorem asmCode_S (page : R4) (bs : List BM) : asmCode page bs = if ((coordsR page).map (cntAt bs)).any (fun c => decide (c = 0)) then 8 else if ((coordsR page).map (cntAt bs)).any (fun c => decide (1 < c)) then 7 else 0 := by
  unfold asmCode
  rw [List.any_map, List.any_map]; rfl
theorem any_snoc {S : List Int} {j : Nat} {c : Int} (f : Int → Bool) (h : S[j]? = some c) : (S.take (j + 1)).any f = ((S.take j).any f || f c) := by
  rw [List.take_add_one, h, List.any_append]; simp
structure AsmI (x0 y0 x1 y1 : Int) (N B b8 b9 gS : Nat) (w wr : World) (es : List BXY) : Prop where
  hE : Ext w wr
  b2 : Box wr w.heap.size 23 #[.int .i64 x0, .int .i64 y0, .int .i64 x1, .int .i64 y1]
  b4 : Box wr (w.heap.size + 1) 34 #[.int .i64 0, .int .i64 0, .int .i64 0, .int .i64 0, .slice none 0 0]
  b8 : Box wr b8 34 #[.int .i64 x0, .int .i64 y0, .int .i64 x1, .int .i64 y1, .slice (some ⟨b9, 0, none⟩) N N]
  oP : pixE.Own wr B (.slice (some ⟨b9, 0, none⟩) N N) (asmF (x0, y0, x1, y1) (asm0 N) es).1
  oS : intE.Own wr B (.slice (some ⟨gS, 0, none⟩) N N) (asmF (x0, y0, x1, y1) (asm0 N) es).2
theorem AsmI.ext {x0 y0 x1 y1 : Int} {N B b8 b9 gS : Nat} {w wr wr' : World} {es : List BXY} (h : AsmI x0 y0 x1 y1 N B b8 b9 gS w wr es) (he : Ext wr wr') : AsmI x0 y0 x1 y1 N B b8 b9 gS w wr' es :=
  ⟨h.hE.trans he, h.b2.ext he, h.b4.ext he, h.b8.ext he, h.oP.ext he, h.oS.ext he⟩
theorem AsmI.step {x0 y0 x1 y1 : Int} {N B b8 b9 gS k : Nat} {w wr : World} {es es' : List BXY} {p : P4} {c : Int} (h : AsmI x0 y0 x1 y1 N B b8 b9 gS w wr es) (hB : w.heap.size + 1 < B) (h8 : B ≤ b8) (h9 : B ≤ b9) (hS : B ≤ gS) (n1 : b9 ≠ b8) (n2 : gS ≠ b8) (n3 : gS ≠ b9)
    (he : asmF (x0, y0, x1, y1) (asm0 N) es' = ((asmF (x0, y0, x1, y1) (asm0 N) es).1.set k p, (asmF (x0, y0, x1, y1) (asm0 N) es).2.set k c)) :
    AsmI x0 y0 x1 y1 N B b8 b9 gS w (((((wr.setCell ⟨b9, k * 4, none⟩ (.int .u8 p.1)).setCell ⟨b9, k * 4 + 1, none⟩ (.int .u8 p.2.1)).setCell ⟨b9, k * 4 + 2, none⟩ (.int .u8 p.2.2.1)).setCell ⟨b9, k * 4 + 3, none⟩ (.int .u8 p.2.2.2)).setCell ⟨gS, k, none⟩ (.int .i64 c)) es' := by
  have m1 := ((((But.refl b9 wr).set (k * 4) (.int .u8 p.1)).set (k * 4 + 1) (.int .u8 p.2.1)).set (k * 4 + 2) (.int .u8 p.2.2.1)).set (k * 4 + 3) (.int .u8 p.2.2.2)
  have hP := pixOwn_set (k := k) h.oP p
  have hS' := own_butne h.oS m1 n3
  generalize hw1 : World.setCell _ (⟨b9, k * 4 + 3, none⟩ : Addr) _ = w1 at *
  have m2 := (But.refl gS w1).set k (.int .i64 c)
  have f1 : ∀ {b : Nat} {t : TypeId} {cs : Array Value}, Box wr b t cs → b ≠ b9 → b ≠ gS → Box (w1.setCell ⟨gS, k, none⟩ (.int .i64 c)) b t cs := fun hb q1 q2 => m2.box (m1.box hb q1) q2
  have hs : w.heap.size ≤ wr.heap.size := h.hE.size
  refine ⟨((h.hE.but m1 (by omega)).but m2 (by omega)), f1 h.b2 (by omega) (by omega), f1 h.b4 (by omega) (by omega), f1 h.b8 n1.symm n2.symm, ?_, ?_⟩
  · rw [he]; exact own_butne hP m2 n3.symm
  · rw [he]; exact intOwn_set hS' c
set_option maxRecDepth 100000 in
set_option maxHeartbeats 1600000 in
theorem AsmMain_any (x0 y0 x1 y1 : Int) (A : Option Addr) (c n : Nat) (ss : List BS) (bs : List BM) (w : World) (hn : ss.length = n) (hb : n ≤ 17592186044416) (hat : bmE.At w A ss) (hbs : BmsOf w ss bs) (hem : rectEmptyS (x0, y0, x1, y1) = false) (har : areaR (x0, y0, x1, y1) ≤ 65536)
    (hall : bs.all bmOk = true) :
    Calls Try.prog 27 #[.agg #[.int .i64 x0, .int .i64 y0, .int .i64 x1, .int .i64 y1], .slice A n c] w fun e w' => ∃ q0 q1 q2 q3 v, e = .returned (.tuple #[.agg #[.int .i64 q0, .int .i64 q1, .int .i64 q2, .int .i64 q3, v], .int .i64 (asmCode (x0, y0, x1, y1) bs)]) ∧ Ext w w' ∧
      (asmCode (x0, y0, x1, y1) bs = 0 → (q0, q1, q2, q3) = (x0, y0, x1, y1) ∧ pixE.Own w' w.heap.size v (asmP (x0, y0, x1, y1) bs)) ∧
      (asmCode (x0, y0, x1, y1) bs ≠ 0 → (q0, q1, q2, q3) = (0, 0, 0, 0) ∧ v = .slice none 0 0) := by
  have HV := Lib.hid (fun W => pEmpty_any x0 y0 x1 y1 W)
  have HA := Lib.hid (fun W => pArea_any x0 y0 x1 y1 W)
  rw [hem] at HV
  have hcan := canon_self hem
  have hbd := areaR_bd (x0, y0, x1, y1)
  have hcl := coords_length hcan
  have HAT := Lib.hid (fun j b hb m p => asm_at hcan bs j b hb (m := m) (p := p))
  obtain ⟨N, hNN⟩ : ∃ N, (coordsR (x0, y0, x1, y1)).length = N := ⟨_, rfl⟩
  have HASM := Lib.hid (asm_all hcan bs)
  have HNL := Lib.hid hNN
  rw [hNN] at HAT HASM hcl
  rw [← hcl] at HA hbd har
  have HN := Lib.hid hn
  have HBL := Lib.hid (show bs.length = n from by rw [← hbs.1]; exact hn)
  have HOK := Lib.hid (show ∀ (j : Nat) (b : BM), bs[j]? = some b → bmOk b = true from fun j b hj => List.all_eq_true.1 hall b (List.mem_of_getElem? hj))
  clear hem hn hall hNN hcl
  go_enter Try.func27, Try.ntmps27
  have b2 := (Box.new w 23 #[.int .i64 x0, .int .i64 y0, .int .i64 x1, .int .i64 y1]).alloc (.cells #[.int .i64 0, .int .i64 0, .int .i64 0, .int .i64 0, .slice none 0 0] 34)
  have b4 := Box.at1 (w := w) (o := .cells #[.int .i64 x0, .int .i64 y0, .int .i64 x1, .int .i64 y1] 23) (t := 34) (cs := #[.int .i64 0, .int .i64 0, .int .i64 0, .int .i64 0, .slice none 0 0])
  have hE := (Ext.alloc w (.cells #[.int .i64 x0, .int .i64 y0, .int .i64 x1, .int .i64 y1] 23)).trans (Ext.alloc _ (.cells #[.int .i64 0, .int .i64 0, .int .i64 0, .int .i64 0, .slice none 0 0] 34))
  go_wp2_with fail
  refine (HV.out _).mono ?_
  rintro e w1 ⟨rfl, hE1⟩
  replace b2 := b2.ext hE1
  replace b4 := b4.ext hE1
  replace hE := hE.trans hE1
  clear hE1
  have c2 := b2.cell
  go_wp2_with fail
  refine (HA.out _).mono ?_
  rintro e w2 ⟨rfl, hE1⟩
  replace b2 := b2.ext hE1
  replace b4 := b4.ext hE1
  replace hE := hE.trans hE1
  clear c2 hE1 HV
  have d1 : ((65536 : Int) < (N : Int)) = False := eq_false (by omega)
  go_wp2_with fail
  clear d1
  go_loopw [28] (fun i wr => ∃ k : Nat, k ≤ n ∧ i = .int .i64 k ∧ Ext w2 wr) (fun i _ => n - (intOf i).toNat)
  case atStart => exact ⟨0, Nat.zero_le _, rfl, Ext.refl _⟩
  case round =>
    obtain ⟨k, hk, rfl, hE3⟩ := hrel
    by_cases hlt : k < n
    · obtain ⟨⟨⟨r0, r1, r2, r3⟩, l⟩, hbk⟩ : ∃ q, bs[k]? = some q := ⟨_, List.getElem?_eq_getElem (by rw [HBL.out]; exact hlt)⟩
      obtain ⟨⟨q, A1, n1, c1⟩, hsk, g1, g2, g3, g4, g5⟩ := hbs.2 k _ hbk
      dsimp only at g1 g2 g3 g4 g5
      subst g1
      obtain ⟨bb, o, rfl, hcell⟩ := hat (fun e => by rw [e] at hsk; simp at hsk)
      obtain ⟨e0, e1, e2, e3, e4⟩ := bm_cells hcell hsk
      have hEE := hE.trans hE3
      replace e0 := hEE.cell e0
      replace e1 := hEE.cell e1
      replace e2 := hEE.cell e2
      replace e3 := hEE.cell e3
      replace e4 := hEE.cell e4
      dsimp only at e0 e1 e2 e3 e4
      have HVV := Lib.hid (fun W (k : Ext w W) => BmValid_any r0 r1 r2 r3 A1 c1 n1 l W g2.symm (by omega) (g5.ext k))
      rw [HOK.out k _ hbk] at HVV
      clear hcell hsk hbk g2 g3 g4 g5
      go_wp2_with fail
      refine (HVV.out _ (hEE.trans (Ext.alloc _ _))).mono ?_
      rintro e w3 ⟨rfl, hE4⟩
      have hE34 := (Ext.alloc wr (.cells #[.int .i64 r0, .int .i64 r1, .int .i64 r2, .int .i64 r3, .slice A1 n1 c1] 34)).trans hE4
      go_wp2
      go_roundw
      case rel => exact ⟨k + 1, by omega, by go_num, hE3.trans hE34⟩
      case measure => simp [intOf]; omega
    · have hkn : k = n := by omega
      subst hkn
      have dk : ((k : Int) < (k : Int)) = False := eq_false (by omega)
      replace b2 := b2.ext hE3
      replace b4 := b4.ext hE3
      replace hE := hE.trans hE3
      have hsw := b4.lt
      clear hE3 hlt hk
      obtain ⟨cs, hcs0', hcs, hmk⟩ := EL.make pixE N N (Nat.le_refl _) (by omega)
      have hcs0 := Lib.hid hcs0'
      obtain ⟨cs2, hcs20', hcs2, hmk2⟩ := EL.make intE N N (Nat.le_refl _) (by omega)
      have hcs20 := Lib.hid hcs20'
      clear hcs0' hcs20'
      go_wp2_with fail
      apply wp_region_par' 6 (by kernel_rfl) (by kernel_rfl) rfl
      simp only [List.take_succ_cons, List.take_zero, List.drop_succ_cons, List.drop_zero]
      generalize hW : World.drew _ = W
      replace hE : Ext w W := by rw [← hW]; exact hE.trans (Ext.drew _)
      replace b2 : Box W w.heap.size 23 #[.int .i64 x0, .int .i64 y0, .int .i64 x1, .int .i64 y1] := by rw [← hW]; exact b2.drew
      replace b4 : Box W (w.heap.size + 1) 34 #[.int .i64 0, .int .i64 0, .int .i64 0, .int .i64 0, .slice none 0 0] := by rw [← hW]; exact b4.drew
      replace hsw := b4.lt
      clear hW
      have k2 := b2.lcell
      have hmk' : ∀ W, (Instr.makeSlice 32 (.int .i64 (N : Int)) (.int .i64 (N : Int))).run Try.prog W = .ok (.slice (some ⟨W.heap.size, 0, none⟩) N N) (W.alloc (.cells cs 41)) := hmk
      have hmk2' : ∀ W, (Instr.makeSlice 49 (.int .i64 (N : Int)) (.int .i64 (N : Int))).run Try.prog W = .ok (.slice (some ⟨W.heap.size, 0, none⟩) N N) (W.alloc (.cells cs2 3)) := hmk2
      clear hmk hmk2
      iterate 3
        refine parW_step rfl (fun K hK => ?_)
        apply Exists.intro
        refine ⟨fun z => ?_, ?_⟩
        focus
          go_simp
          first
            | rfl
            | with_reducible exact calls_val (HA.out _)
        go_simp
        refine hK _ ?_
        clear hK K
      refine parW_newRow (t := 41) (n := N) (cs := cs) rfl rfl rfl (by simp) (fun w1 => ?_) ?_
      · go_simp
      refine parW_rel rfl (R := fun v w' => ∃ b, v = .agg #[.int .i64 x0, .int .i64 y0, .int .i64 x1, .int .i64 y1, .slice (some ⟨b, 0, none⟩) N N] ∧ W.heap.size ≤ b ∧ Box w' b 41 cs) (fun v w w' ⟨b, h1, h2, h3⟩ he => ⟨b, h1, h2, h3.ext he⟩) (fun x => ?_) ?_
      · intro v0 hv0
        obtain ⟨b, rfl, hb0, bx⟩ := hv0 (show Nat.testBit _ _ = true from by kernel_rfl)
        simp only [Giv]
        go_simp
      refine parW_new (t := 34) (cs := #[.int .i64 0, .int .i64 0, .int .i64 0, .int .i64 0, .slice none 0 0]) rfl rfl rfl (by simp) (fun w1 => by kernel_rfl) ?_
      refine parW_fin (fun z => ?_)
      rintro v40 hv40 v41 ⟨b9, rfl, hb9, bx9⟩ v8 ⟨b8, rfl, hb8, bx8⟩ hp
      clear hp hv40
      simp only [Act.put, List.setIfInBounds_toArray, List.set_cons_succ, List.set_cons_zero]
      have hne : b8 ≠ b9 := fun e => by
        subst e
        have := bx8.symm.trans bx9
        simp at this
      have c8 := bx8.cell
      have f8 := bx8.frozen
      replace hE := hE.later z
      replace b2 := b2.later z
      replace b4 := b4.later z
      generalize z.val = Z at *
      clear k2 hmk' z
      go_wp2_with fail
      generalize hW3 : World.alloc _ (.cells cs2 _) = W3
      have hI : AsmI x0 y0 x1 y1 N W.heap.size b8 b9 Z.heap.size w W3 (flatB (x0, y0, x1, y1) (bs.take 0)) := by
        have l8 := bx8.lt
        have l9 := bx9.lt
        rw [← hW3]
        refine ⟨(hE.set5 (by omega) _ _ _ _ _).trans (Ext.alloc _ _), (b2.far5 (by omega) _ _ _ _ _ _ _ _ _ _).alloc _, (b4.far5 (by omega) _ _ _ _ _ _ _ _ _ _).alloc _, (bx8.set5 _ _ _ _ _).alloc _, ?_, ?_⟩
        · exact EL.Own.mk (by show N = (asm0 N).1.length; simp [asm0]) hb9 ((bx9.far5 hne.symm _ _ _ _ _ _ _ _ _ _).alloc _) (Nat.le_refl _) (by unfold maxLen; omega) hcs (pix_zeros hcs0.out)
        · exact EL.Own.mk (by show N = (asm0 N).2.length; simp [asm0]) (Nat.le_trans hb9 (by omega)) (Box.newAt (by simp [size_set])) (Nat.le_refl _) (by unfold maxLen; omega) hcs2 (int_zeros hcs20.out)
      have n2 : Z.heap.size ≠ b8 := by have := bx8.lt; omega
      have n3 : Z.heap.size ≠ b9 := by have := bx9.lt; omega
      have hSB : W.heap.size ≤ Z.heap.size := by have := bx9.lt; omega
      generalize Z.heap.size = gS at *
      generalize W.heap.size = B at *
      clear hW3 hE b2 b4 bx8 bx9 c8 f8 hmk2' hcs hcs2 hcs0 hcs20 cs cs2 HA
      go_loopw [48] (fun i wr => ∃ j : Nat, j ≤ k ∧ i = .int .i64 j ∧ AsmI x0 y0 x1 y1 N B b8 b9 gS w wr (flatB (x0, y0, x1, y1) (bs.take j))) (fun i _ => k - (intOf i).toNat)
      case atStart => exact ⟨0, Nat.zero_le _, rfl, hI⟩
      case round =>
        obtain ⟨j, hj, rfl, hI⟩ := hrel
        by_cases hlt : j < k
        · have dj : ((j : Int) < (k : Int)) = True := eq_true (by omega)
          obtain ⟨bm, hbk⟩ : ∃ q, bs[j]? = some q := ⟨_, List.getElem?_eq_getElem (by rw [HBL.out]; exact hlt)⟩
          have HROW := Lib.hid (asm_row (page := (x0, y0, x1, y1)) bs hbk)
          have hok := HOK.out j _ hbk
          have HAT' := Lib.hid (fun m p => HAT.out j bm hok m p)
          have hcanq := interS_canon (x0, y0, x1, y1) bm.1
          have hci := canon_in (interS (x0, y0, x1, y1) bm.1)
          obtain ⟨⟨r0, r1, r2, r3⟩, l⟩ := bm
          obtain ⟨⟨q, A1, nl, c1⟩, hsk, g1, g2, g3, g4, g5⟩ := hbs.2 j _ hbk
          dsimp only at g1 g2 g3 g4 g5
          subst g1
          obtain ⟨bb, o, rfl, hcell⟩ := hat (fun e => by rw [e] at hsk; simp at hsk)
          obtain ⟨e0, e1, e2, e3, e4⟩ := bm_cells hcell hsk
          have hEE := hI.hE
          replace e0 := hEE.cell e0
          replace e1 := hEE.cell e1
          replace e2 := hEE.cell e2
          replace e3 := hEE.cell e3
          replace e4 := hEE.cell e4
          dsimp only at e0 e1 e2 e3 e4 HROW HAT' hcanq hci
          have HGL := Lib.hid g2
          clear hcell hsk hbk g2
          have HQ := Lib.hid (fun W => pInter_any x0 y0 x1 y1 r0 r1 r2 r3 W)
          generalize interS (x0, y0, x1, y1) (r0, r1, r2, r3) = q at *
          rw [hcanq] at hci
          obtain ⟨q0, q1, q2, q3⟩ := q
          unfold rectV at HQ
          obtain ⟨i1, i2, i3, i4, i5, i6⟩ := hci
          replace i1 := inR_bd i1
          replace i2 := inR_bd i2
          replace i3 := inR_bd i3
          replace i4 := inR_bd i4
          dsimp only at HQ i1 i2 i3 i4 i5 i6
          have c2 := hI.b2.cell
          go_wp2_with fail
          clear c2
          refine (HQ.out _).mono ?_
          rintro e w3 ⟨rfl, hE4⟩
          have b11 := (Box.new wr 34 #[.int .i64 r0, .int .i64 r1, .int .i64 r2, .int .i64 r3, .slice A1 nl c1]).ext hE4
          have hI3 := (hI.ext (Ext.alloc wr (.cells #[.int .i64 r0, .int .i64 r1, .int .i64 r2, .int .i64 r3, .slice A1 nl c1] 34))).ext hE4
          have l9 := hI.oP.lt
          have lS := hI.oS.lt
          have ls1 := hE4.size
          rw [show (wr.alloc (.cells #[.int .i64 r0, .int .i64 r1, .int .i64 r2, .int .i64 r3, .slice A1 nl c1] 34)).heap.size = wr.heap.size + 1 from by simp] at ls1
          clear hI e0 e1 e2 e3 e4 hEE hE4 HQ
          go_wp2_with fail
          have b12 := Box.new w3 23 #[.int .i64 q0, .int .i64 q1, .int .i64 q2, .int .i64 q3]
          replace b11 := b11.alloc (.cells #[.int .i64 q0, .int .i64 q1, .int .i64 q2, .int .i64 q3] 23)
          have hI := hI3.ext (Ext.alloc w3 (.cells #[.int .i64 q0, .int .i64 q1, .int .i64 q2, .int .i64 q3] 23))
          clear hI3
          generalize hw4 : World.alloc w3 _ = w4 at *
          clear hw4
          generalize hB11 : wr.heap.size = B11 at *
          generalize hB12 : w3.heap.size = B12 at *
          clear hB11 hB12
          have hqn : ((q2 - q0).toNat : Int) = q2 - q0 := by omega
          generalize hWD : (q2 - q0).toNat = WD at *
          generalize hHT : (q3 - q1).toNat = HT at *
          have HCO := Lib.hid (show coordsR (q0, q1, q2, q3) = gridXY q0 q1 WD HT from by rw [← hWD, ← hHT]; rfl)
          have HNX := Lib.hid (show flatB (x0, y0, x1, y1) (bs.take j) = flatB (x0, y0, x1, y1) (bs.take j) ++ ofB ((r0, r1, r2, r3), l) ((coordsR (q0, q1, q2, q3)).take (0 * WD)) from by rw [Nat.zero_mul, List.take_zero]; simp [ofB])
          rw [HNX.out] at hI
          generalize hfl : flatB (x0, y0, x1, y1) (bs.take j) = fl at *
          have HFL := Lib.hid hfl
          clear HNX hfl
          go_loopw [13] (fun y wr => ∃ jy : Nat, jy ≤ HT ∧ y = .int .i64 (q1 + jy) ∧ AsmI x0 y0 x1 y1 N B b8 b9 gS w wr (fl ++ ofB ((r0, r1, r2, r3), l) ((coordsR (q0, q1, q2, q3)).take (jy * WD))) ∧ Box wr B11 34 #[.int .i64 r0, .int .i64 r1, .int .i64 r2, .int .i64 r3, .slice A1 nl c1] ∧ Box wr B12 23 #[.int .i64 q0, .int .i64 q1, .int .i64 q2, .int .i64 q3]) (fun y _ => HT - (intOf y - q1).toNat)
          case atStart => exact ⟨0, Nat.zero_le _, by simp, hI, b11, b12⟩
          case round =>
            obtain ⟨jy, hjy, rfl, hI, b11, b12⟩ := hrel
            have c12 := b12.cell
            by_cases hlty : jy < HT
            · have dy : (q1 + (jy : Int) < q3) = True := eq_true (by omega)
              go_wp2_with fail
              clear c12 dy
              have hI' : AsmI x0 y0 x1 y1 N B b8 b9 gS w wr (fl ++ ofB ((r0, r1, r2, r3), l) ((coordsR (q0, q1, q2, q3)).take (jy * WD + 0))) := hI
              clear hI
              go_loopw [14] (fun x wr => ∃ jx : Nat, jx ≤ WD ∧ x = .int .i64 (q0 + jx) ∧ AsmI x0 y0 x1 y1 N B b8 b9 gS w wr (fl ++ ofB ((r0, r1, r2, r3), l) ((coordsR (q0, q1, q2, q3)).take (jy * WD + jx))) ∧ Box wr B11 34 #[.int .i64 r0, .int .i64 r1, .int .i64 r2, .int .i64 r3, .slice A1 nl c1] ∧ Box wr B12 23 #[.int .i64 q0, .int .i64 q1, .int .i64 q2, .int .i64 q3]) (fun x _ => WD - (intOf x - q0).toNat)
              case atStart => exact ⟨0, Nat.zero_le _, by simp, hI', b11, b12⟩
              case round =>
                obtain ⟨jx, hjx, rfl, hI, b11, b12⟩ := hrel
                have c12 := b12.cell
                by_cases hltx : jx < WD
                · have dx : (q0 + (jx : Int) < q2) = True := eq_true (by omega)
                  obtain ⟨kk, k2, cc, hk1, hk2, hkN, hpx, hc0, hcj, hsk, hst⟩ := HAT'.out (jy * WD + jx) (q0 + jx, q1 + jy) (by rw [HCO.out]; exact gridXY_get hltx hlty)
                  dsimp only at hk1 hk2 hpx hst
                  have HP1 := Lib.hid (fun W => pPixIx_any x0 y0 x1 y1 (q0 + jx) (q1 + jy) W)
                  have HP2 := Lib.hid (fun W => pPixIx_any r0 r1 r2 r3 (q0 + jx) (q1 + jy) W)
                  rw [hk1] at HP1
                  rw [hk2] at HP2
                  have c2 := hI.b2.cell
                  generalize hpp : pixAt ((r0, r1, r2, r3), l) (q0 + jx) (q1 + jy) = pp at *
                  obtain ⟨pr, pg, pb, pa⟩ := pp
                  have HST := Lib.hid hst
                  have hk2l : k2 < nl := by rw [HGL.out]; exact (List.getElem?_eq_some_iff.1 hpx).1
                  obtain ⟨bb2, o2, rfl, hcell⟩ := g5 (fun e => by rw [e] at hpx; simp at hpx)
                  obtain ⟨e0, e1, e2, e3⟩ := pix_cells hcell hpx
                  dsimp only at e0 e1 e2 e3
                  clear hst hcell hpx hpp hk1 hk2
                  go_wp2_with fail
                  refine (HP1.out _).mono ?_
                  rintro e w5 ⟨rfl, hE5⟩
                  replace hI := hI.ext hE5
                  replace b11 := b11.ext hE5
                  replace b12 := b12.ext hE5
                  clear c2 c12 hE5 HP1 dx
                  go_wp2_with fail
                  apply wp_region_par' 13 (by kernel_rfl) (by kernel_rfl) rfl
                  simp only [List.take_succ_cons, List.take_zero, List.drop_succ_cons, List.drop_zero]
                  generalize hW : World.drew _ = W5
                  have hEW : Ext w5 W5 := by rw [← hW]; exact Ext.drew _
                  replace hI := hI.ext hEW
                  replace b11 := b11.ext hEW
                  replace b12 := b12.ext hEW
                  clear hW hEW
                  have k8 := hI.b8.lcell
                  have k11 := b11.lcell
                  have hEE := hI.hE
                  replace e0 := fun z : Later W5 => z.cell (hEE.cell e0)
                  replace e1 := fun z : Later W5 => z.cell (hEE.cell e1)
                  replace e2 := fun z : Later W5 => z.cell (hEE.cell e2)
                  replace e3 := fun z : Later W5 => z.cell (hEE.cell e3)
                  iterate 13
                    refine parW_step rfl (fun K hK => ?_)
                    apply Exists.intro
                    refine ⟨fun z => ?_, ?_⟩
                    focus
                      go_simp
                      first
                        | rfl
                        | with_reducible exact calls_val (HP2.out _)
                    go_simp
                    refine hK _ ?_
                    clear hK K
                  refine parW_end (fun z => ?_)
                  replace hI := hI.ext z.prop
                  replace b11 := b11.later z
                  replace b12 := b12.later z
                  generalize z.val = Z5 at *
                  clear k8 k11 e0 e1 e2 e3 z hEE HP2
                  obtain ⟨ca, cb, ccc, cd, f0, f1, f2, f3⟩ := pixOwn_cells hI.oP hkN
                  have z0 : Z5.frozen? ⟨b9, kk * 4, none⟩ = false := pixOwn_frozen hI.oP
                  have z1 : Z5.frozen? ⟨b9, kk * 4 + 1, none⟩ = false := pixOwn_frozen hI.oP
                  have z2 : Z5.frozen? ⟨b9, kk * 4 + 2, none⟩ = false := pixOwn_frozen hI.oP
                  have z3 : Z5.frozen? ⟨b9, kk * 4 + 3, none⟩ = false := pixOwn_frozen hI.oP
                  have sc : Z5.cell? ⟨gS, kk, none⟩ = some (.int .i64 cc) := intOwn_cell hI.oS hsk
                  have sf : Z5.frozen? ⟨gS, kk, none⟩ = false := intOwn_frozen hI.oS
                  have qc : IntKind.i64.wrap (cc + 1) = cc + 1 := IntWalk.i64_in _ (by omega)
                  clear hsk
                  have n3' : b9 ≠ gS := n3.symm
                  go_wp2_with fail
                  go_roundw
                  case rel =>
                    have hst := HST.out
                    rw [show jy * WD + jx + 1 = jy * WD + (jx + 1) by omega] at hst
                    have hnx := hI.step (k := kk) (p := (pr, pg, pb, pa)) (c := cc + 1) hsw hb8 hb9 hSB hne.symm n2 n3 hst
                    refine ⟨jx + 1, by omega, by go_num, hnx, ?_, ?_⟩
                    · exact (b11.far4 (by omega) _ _ _ _ _ _ _ _).far (by show B11 ≠ gS; omega) _
                    · exact (b12.far4 (by omega) _ _ _ _ _ _ _ _).far (by show B12 ≠ gS; omega) _
                  case measure => simp [intOf]; omega
                · have hx : jx = WD := by omega
                  subst hx
                  have dx : (q0 + (jx : Int) < q2) = False := eq_false (by omega)
                  go_wp2_with fail
                  go_roundw
                  case rel => exact ⟨jy + 1, by omega, by go_num, by rw [show (jy + 1) * jx = jy * jx + jx by rw [Nat.add_mul, Nat.one_mul]]; exact hI, b11, b12⟩
                  case measure => simp [intOf]; omega
            · have hy : jy = HT := by omega
              subst hy
              have dy : (q1 + (jy : Int) < q3) = False := eq_false (by omega)
              go_wp2_with fail
              go_roundw
              case rel =>
                refine ⟨j + 1, by omega, by go_num, ?_⟩
                rw [HROW.out]
                have hct : (coordsR (q0, q1, q2, q3)).take (jy * WD) = coordsR (q0, q1, q2, q3) := List.take_of_length_le (by rw [HCO.out, gridXY_length]; exact Nat.le_refl _)
                rw [hct] at hI
                exact hI
              case measure => simp [intOf]; omega
        · have hjk : j = k := by omega
          subst hjk
          have dj : ((j : Int) < (j : Int)) = False := eq_false (by omega)
          have hbt : bs.take j = bs := List.take_of_length_le (Nat.le_of_eq HBL.out)
          rw [hbt] at hI
          clear hbt
          go_wp2_with fail
          have oP := hI.oP
          have oS := hI.oS
          rw [HASM.out] at oP oS
          have hE := hI.hE
          have b4 := hI.b4
          have b8' := hI.b8
          have HCD := Lib.hid (asmCode_S (x0, y0, x1, y1) bs)
          have hSN : ((coordsR (x0, y0, x1, y1)).map (cntAt bs)).length = N := by rw [List.length_map, HNL.out]
          have HSN := Lib.hid hSN
          have HSB := Lib.hid (show ∀ (i : Nat) (x : Int), ((coordsR (x0, y0, x1, y1)).map (cntAt bs))[i]? = some x → 0 ≤ x from fun i x hx => by
            rw [List.getElem?_map] at hx
            cases hc : (coordsR (x0, y0, x1, y1))[i]? with
            | none => rw [hc] at hx; cases hx
            | some p => rw [hc] at hx; injection hx with hx; rw [← hx]; exact (cntAt_le bs p).1)
          clear hI hSN
          dsimp only at oP oS
          generalize (coordsR (x0, y0, x1, y1)).map (cntAt bs) = S at *
          have c4 := b4.cell
          have f4 := b4.frozen
          have c8 := b8'.cell
          have hAE : AsmI x0 y0 x1 y1 N B b8 b9 gS w wr [] → True := fun _ => trivial
          clear hAE
          have HZ0 := Lib.hid (show ∀ i, i < 0 → ∀ x, S[i]? = some x → x ≠ 0 from fun i hi => absurd hi (by omega))
          go_loopw [16, 98] (fun tw i wr' => ∃ j : Nat, j ≤ N ∧ i = .int .i64 j ∧ tw = .bool ((S.take j).any (fun c => decide (1 < c))) ∧ Hid (∀ i, i < j → ∀ x, S[i]? = some x → x ≠ 0) ∧ wr = wr') (fun _ i _ => N - (intOf i).toNat)
          case atStart => exact ⟨0, Nat.zero_le _, rfl, by simp, HZ0, rfl⟩
          case round =>
            obtain ⟨i, hi, rfl, rfl, HZ, rfl⟩ := hrel
            clear HZ0
            by_cases hlti : i < N
            · have di : ((i : Int) < (N : Int)) = True := eq_true (by omega)
              obtain ⟨x, hx⟩ : ∃ x, S[i]? = some x := ⟨_, List.getElem?_eq_getElem (by rw [HSN.out]; exact hlti)⟩
              have sc := intOwn_cell oS hx
              have hx0 := HSB.out i x hx
              have HX := Lib.hid hx
              have HA := Lib.hid (any_snoc (fun c => decide (1 < c)) hx)
              clear hx
              by_cases hxz : x = 0
              · subst hxz
                have HR := Lib.hid (show asmCode (x0, y0, x1, y1) bs = 8 from by
                  rw [HCD.out, if_pos]
                  rw [List.any_eq_true]
                  exact ⟨0, List.mem_of_getElem? HX.out, by decide⟩)
                clear HCD HZ HA
                go_wp2
                exact bodyPost_ret (v := .tuple #[.agg #[.int .i64 0, .int .i64 0, .int .i64 0, .int .i64 0, .slice none 0 0], .int .i64 8]) (by simp [results, Try.results27, go_sem, List.size_toArray, c4, f4]) rfl ⟨0, 0, 0, 0, .slice none 0 0, by rw [HR.out], hE.set5 (by omega) _ _ _ _ _, (fun h => absurd (HR.out.symm.trans h) (by decide)), fun _ => ⟨rfl, rfl⟩⟩
              · have HZ' := Lib.hid (show ∀ k, k < i + 1 → ∀ y, S[k]? = some y → y ≠ 0 from fun k hk y hy => by
                  by_cases hki : k < i
                  · exact HZ.out k hki y hy
                  · have : k = i := by omega
                    subst this
                    rw [HX.out] at hy
                    injection hy with hy
                    rw [← hy]; exact hxz)
                have dxz : (x == 0) = false := by simpa using hxz
                cases htw : (S.take i).any (fun c => decide (1 < c))
                · rw [htw, Bool.false_or] at HA
                  by_cases hx1 : 1 < x
                  · have dx1 : (1 < x) = True := eq_true hx1
                    clear HZ htw hxz
                    go_wp2_with fail
                    go_roundw
                    case rel => exact ⟨i + 1, by omega, by go_num, by rw [HA.out, decide_eq_true hx1], HZ', trivial⟩
                    case measure => simp [intOf]; omega
                  · have dx1 : (1 < x) = False := eq_false hx1
                    clear HZ htw hxz
                    go_wp2_with fail
                    go_roundw
                    case rel => exact ⟨i + 1, by omega, by go_num, by rw [HA.out, decide_eq_false hx1], HZ', trivial⟩
                    case measure => simp [intOf]; omega
                · rw [htw, Bool.true_or] at HA
                  clear HZ htw hxz
                  go_wp2_with fail
                  go_roundw
                  case rel => exact ⟨i + 1, by omega, by go_num, by rw [HA.out], HZ', trivial⟩
                  case measure => simp [intOf]; omega
            · have hiN : i = N := by omega
              subst hiN
              have di : ((i : Int) < (i : Int)) = False := eq_false (by omega)
              have hst : S.take i = S := List.take_of_length_le (Nat.le_of_eq HSN.out)
              have HNZ := Lib.hid (show S.any (fun c => decide (c = 0)) = false from by
                rw [List.any_eq_false]
                intro x hx
                obtain ⟨k, hk⟩ := List.mem_iff_getElem?.1 hx
                have := HZ.out k (by have := (List.getElem?_eq_some_iff.1 hk).1; rw [HSN.out] at this; exact this) x hk
                simpa using this)
              rw [hst]
              clear hst HZ
              cases htw : S.any (fun c => decide (1 < c))
              · have HR := Lib.hid (show asmCode (x0, y0, x1, y1) bs = 0 from by rw [HCD.out, HNZ.out, htw]; rfl)
                clear HCD htw
                go_wp2
                exact bodyPost_ret (v := .tuple #[.agg #[.int .i64 x0, .int .i64 y0, .int .i64 x1, .int .i64 y1, .slice (some ⟨b9, 0, none⟩) i i], .int .i64 0]) (by simp [results, Try.results27, go_sem, List.size_toArray, c4, f4]) rfl ⟨x0, y0, x1, y1, _, by rw [HR.out], hE.set5 (by omega) _ _ _ _ _, fun _ => ⟨rfl, ((oP.but ((((((But.refl (w.heap.size + 1) wr).set 0 _).set 1 _).set 2 _).set 3 _).set 4 _) (by omega))).lower (by omega)⟩, fun h => absurd HR.out h⟩
              · have HR := Lib.hid (show asmCode (x0, y0, x1, y1) bs = 7 from by rw [HCD.out, HNZ.out, htw]; rfl)
                clear HCD htw
                go_wp2
                exact bodyPost_ret (v := .tuple #[.agg #[.int .i64 0, .int .i64 0, .int .i64 0, .int .i64 0, .slice none 0 0], .int .i64 7]) (by simp [results, Try.results27, go_sem, List.size_toArray, c4, f4]) rfl ⟨0, 0, 0, 0, .slice none 0 0, by rw [HR.out], hE.set5 (by omega) _ _ _ _ _, (fun h => absurd (HR.out.symm.trans h) (by decide)), fun _ => ⟨rfl, rfl⟩⟩
end Go.Proofs.Ytefdheoalonbaaa
