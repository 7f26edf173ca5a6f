/- Outlines of the program: the edges. -/
import Derived.Test.YtkjpcjmbhpfelaaGreatRgOutG
import Derived.Test.YtkjpcjmbhpfelaaGreatRgKept
set_option linter.unusedVariables false
set_option linter.unusedSimpArgs false
namespace Go.Reg
open Go.Proofs.YtkjpcjmbhpfelaaGreat Go.Par
theorem rectE4_len (L : List R4) (r : R4) : (rectE4 L r).length ≤ 2 * L.length + 4 := by
  unfold rectE4 topE botE
  have h1 := unc_length (x1 := r.2.2.1) (aboveL L r.2.1) r.1
  have h2 := unc_length (x1 := r.2.2.1) (belowL L r.2.2.2) r.1
  have h3 : (aboveL L r.2.1).length ≤ L.length := List.length_filter_le _ _
  have h4 : (belowL L r.2.2.2).length ≤ L.length := List.length_filter_le _ _
  simp only [List.length_append, List.length_cons, List.length_map, List.length_nil]
  omega
theorem edgesTo_len (L : List R4) : ∀ (l : List R4), (l.flatMap (rectE4 L)).length ≤ l.length * (2 * L.length + 4) := by
  intro l
  induction l with
  | nil => simp
  | cons r l ih =>
    have := rectE4_len L r
    rw [List.flatMap_cons, List.length_append, List.length_cons, Nat.add_mul, Nat.one_mul]
    omega
theorem edgesOf_len {L : List R4} (h : L.length ≤ 1024) : (edgesOf L).length ≤ 2101248 := by
  have h1 := edgesTo_len L L
  have h2 : L.length * (2 * L.length + 4) ≤ 1024 * (2 * 1024 + 4) := Nat.mul_le_mul h (by omega)
  unfold edgesOf
  omega
/-- the pieces behind k rectangles and a part of the next one's -/
theorem edges_part {L : List R4} {k : Nat} {r : R4} (h : L[k]? = some r) {X : List Edg} (hX : X <+: rectE4 L r) (hL : L.length ≤ 1024) : ((L.take k).flatMap (rectE4 L) ++ X).length ≤ 2101248 := by
  obtain ⟨Y, hY⟩ := hX
  have e : L = L.take k ++ r :: L.drop (k + 1) := by rw [← drop_consG h, List.take_append_drop]
  have h1 := edgesOf_len hL
  unfold edgesOf at h1
  have h2 : (L.flatMap (rectE4 L)).length = ((L.take k).flatMap (rectE4 L)).length + ((rectE4 L r).length + ((L.drop (k + 1)).flatMap (rectE4 L)).length) := by
    have := congrArg (fun l => (l.flatMap (rectE4 L)).length) e
    simp only [List.flatMap_append, List.flatMap_cons, List.length_append] at this
    exact this
  rw [← hY, List.length_append] at h2
  rw [List.length_append]
  omega
end Go.Reg
namespace Go.Proofs.YtkjpcjmbhpfelaaGreat
open Go.RowKit Go.Par Go.Reg Go.Maps

theorem pr_cell {w : World} {b o : Nat} {l : List (Int × Int)} (h : prE.At w (some ⟨b, o, none⟩) l) {k : Nat} {p0 p1 : Int} (hk : l[k]? = some (p0, p1)) : w.cell? ⟨b, o + k * 2, none⟩ = some (.int .i64 p0) ∧ w.cell? ⟨b, o + k * 2 + 1, none⟩ = some (.int .i64 p1) :=
  ⟨h.cellAt (j := 0) hk rfl, h.cellAt (j := 1) hk rfl⟩
theorem pr_own {w : World} {B n c : Nat} {A : Option Addr} {l : List (Int × Int)} (h : prE.Own w B (.slice A n c) l) {k : Nat} {p0 p1 : Int} (hk : l[k]? = some (p0, p1)) :
    ∃ b o, A = some ⟨b, o, none⟩ ∧ w.cell? ⟨b, o + k * 2, none⟩ = some (.int .i64 p0) ∧ w.cell? ⟨b, o + k * 2 + 1, none⟩ = some (.int .i64 p1) := by
  obtain ⟨g, cap, e, _, _⟩ := h.head (Nat.lt_of_le_of_lt (Nat.zero_le _) (List.getElem?_eq_some_iff.1 hk).1)
  simp only [Value.slice.injEq] at e
  obtain ⟨rfl, rfl, rfl⟩ := e
  refine ⟨g, 0, rfl, ?_, ?_⟩
  · have := h.cell (i := k) (j := 0) hk rfl
    rwa [Nat.zero_add]
  · have := h.cell (i := k) (j := 1) hk rfl
    rwa [Nat.zero_add]
theorem map_snoc {α β : Type} {l : List α} {q : Nat} {p : α} (f : α → β) (X : List β) (h : l[q]? = some p) : X ++ (l.take (q + 1)).map f = (X ++ (l.take q).map f) ++ [f p] := by
  rw [take_snocG h, List.map_append, List.append_assoc]; rfl
set_option maxRecDepth 100000 in
set_option maxHeartbeats 6400000 in
theorem edges_any (L : List R4) (A : Option Addr) (n c : Nat) (w : World) (hn : L.length = n) (hb : n ≤ 1024) (hA : rectE.At w A L) (hbd : ∀ r ∈ L, (-4096 ≤ r.1 ∧ r.1 ≤ 4096) ∧ (-4096 ≤ r.2.1 ∧ r.2.1 ≤ 4096) ∧ (-4096 ≤ r.2.2.1 ∧ r.2.2.1 ≤ 4096) ∧ (-4096 ≤ r.2.2.2 ∧ r.2.2.2 ≤ 4096)) :
    Calls Tryz.prog 14 #[.slice A n c] w fun e w' => ∃ v, e = .returned v ∧ Ext w w' ∧ edgE.Own w' w.heap.size v (edgesOf L) := by
  have hmm := @run_makeMap Tryz.prog
  have HN := Lib.hid hn
  have HBD := Lib.hid hbd
  clear hn hbd
  obtain ⟨B4, hB4⟩ : ∃ B, w.heap.size = B := ⟨_, rfl⟩
  have hE0 := (Ext.alloc w (.map #[] 0)).trans (Ext.alloc (w.alloc (.map #[] 0)) (.map #[] 0))
  have hm1 : MapR ((w.alloc (.map #[] 0)).alloc (.map #[] 0)) B4 0 fun y => (fun _ => nilV : Bool × Int → Value) (true, y) := by rw [← hB4]; exact (MapVal.made w).ext (Ext.alloc _ _)
  have hm2 : MapR ((w.alloc (.map #[] 0)).alloc (.map #[] 0)) (B4 + 1) 0 fun y => (fun _ => nilV : Bool × Int → Value) (false, y) := by
    have := MapVal.made (P := Tryz.prog) (k := 3) (kv := Value.int .i64) (w.alloc (.map #[] 0))
    have hsz : (w.alloc (.map #[] 0)).heap.size = B4 + 1 := by rw [← hB4]; exact Array.size_push _
    rw [hsz] at this
    exact this
  have hf0 : Fam rectE ((w.alloc (.map #[] 0)).alloc (.map #[] 0)) w.heap.size (fun _ => nilV : Bool × Int → Value) (famL L 0) := by
    have e : famL L 0 = fun _ => [] := by funext ⟨s, y⟩; cases s <;> simp [famL, aboveL, belowL]
    rw [e]; exact Fam.nil _ _ _
  have HB4 := Lib.hid hB4
  go_enter Tryz.func14, Tryz.ntmps14
  go_wp2_with fail
  generalize hw1 : World.alloc (World.alloc _ _) _ = w1 at *
  clear hw1
  clear hB4
  go_loopw [18] (fun i wr => ∃ (k : Nat) (val : Bool × Int → Value), k ≤ n ∧ i = .int .i64 k ∧ Ext w wr ∧ Fam rectE wr w.heap.size val (famL L k) ∧ MapR wr B4 k (fun y => val (true, y)) ∧ MapR wr (B4 + 1) k (fun y => val (false, y))) (fun i _ => n - (intOf i).toNat)
  case atStart => exact ⟨0, _, Nat.zero_le _, rfl, hE0, hf0, hm1, hm2⟩
  case round =>
    clear hE0 hf0 hm1 hm2
    obtain ⟨k, val, hk, rfl, hE, hf, hm1, hm2⟩ := hrel
    by_cases hlt : k < n
    · have dk : ((k : Int) < (n : Int)) = True := eq_true (by omega)
      obtain ⟨⟨x0, x1, x2, x3⟩, hlk⟩ : ∃ q, L[k]? = some q := ⟨_, List.getElem?_eq_getElem (by rw [HN.out]; exact hlt)⟩
      obtain ⟨c0, c1, c2, c3⟩ := HBD.out _ (List.mem_of_getElem? hlk)
      dsimp only at c0 c1 c2 c3
      obtain ⟨bb, o, rfl⟩ := hA.addr hlk
      obtain ⟨e0, e1, e2, e3⟩ := rect_cell hA hlk
      dsimp only at e0 e1 e2 e3
      replace e0 := hE.cell e0
      replace e1 := hE.cell e1
      replace e2 := hE.cell e2
      replace e3 := hE.cell e3
      have HS := Lib.hid (famL_step hlk)
      clear hlk
      have hBx := Box.new wr 34 #[.int .i64 x0, .int .i64 x1, .int .i64 x2, .int .i64 x3]
      have hEa := Ext.alloc wr (.cells #[.int .i64 x0, .int .i64 x1, .int .i64 x2, .int .i64 x3] 34)
      have hnB : ∀ i, (val i).ownBlock ≠ some wr.heap.size := fun i e => by
        have := (World.ownsRow.lt (hf.own i) _ e).2
        omega
      have hkm : k < maxLen := by unfold maxLen; omega
      obtain ⟨v1, w2, w3, l1, l2, r1, r2, E3, f3, m3, m3', bx2, bx3, nb3, sz3⟩ := grp_step (F := famL L k) true x3 x0 x1 x2 x3 (hE.trans hEa) (hf.ext hEa) (hm1.ext hEa) (hm2.ext hEa) (by omega) hBx hnB c3.1 c3.2 (by have := famL_len L k (true, x3); omega) (hE.trans hEa).size (Nat.le_refl _) (by rw [HB4.out]; exact Nat.le_refl _) hkm (wr.heap.size + 1) (Array.size_push _)
      obtain ⟨v2, w5, w6, l3, l4, r3, r4, E6, f6, m6, m6', bx5, bx6, nb6, sz6⟩ := grp_step false x1 x0 x1 x2 x3 E3 f3 m3' m3 (by omega) bx3 nb3 c1.1 c1.2 (by rw [upd_other _ _ (by simp)]; have := famL_len L k (false, x1); omega) sz3 (Nat.le_refl _) (by rw [HB4.out]; omega) hkm _ rfl
      have cc0 := hBx.cell
      have cc2 := bx2.cell
      have cc3 := bx3.cell
      have cc5 := bx5.cell
      have cc6 := bx6.cell
      have F6 := Lib.hid f6
      have M6 := Lib.hid m6
      have M6' := Lib.hid m6'
      clear f3 m3 m3' bx2 bx3 nb3 sz3 f6 m6 m6' bx5 bx6 nb6 sz6 hf hm1 hm2 hBx hEa hnB hE E3
      go_wp2_with fail
      go_region_held3 (fun w' => w'.cell? ⟨wr.heap.size, 0, none⟩ = some (.int .i64 x0) ∧ w'.cell? ⟨wr.heap.size, 1, none⟩ = some (.int .i64 x1) ∧ w'.cell? ⟨wr.heap.size, 2, none⟩ = some (.int .i64 x2) ∧ w'.cell? ⟨wr.heap.size, 3, none⟩ = some (.int .i64 x3)) (go_keep) (with_reducible refine step_run rfl rfl (v := val (true, x3)) (u := .slice (some ⟨wr.heap.size + 1, 0, none⟩) 1 1) rfl rfl r1 ?_)
      all_goals
        clear l1 l2 r1 r2 cc0 cc2
        go_wp2_with fail
        go_region_held3 (fun w' => w'.cell? ⟨wr.heap.size, 0, none⟩ = some (.int .i64 x0) ∧ w'.cell? ⟨wr.heap.size, 1, none⟩ = some (.int .i64 x1) ∧ w'.cell? ⟨wr.heap.size, 2, none⟩ = some (.int .i64 x2) ∧ w'.cell? ⟨wr.heap.size, 3, none⟩ = some (.int .i64 x3)) (go_keep) (with_reducible refine step_run rfl rfl (v := upd val (true, x3) v1 (false, x1)) (u := .slice (some ⟨w3.heap.size, 0, none⟩) 1 1) rfl rfl r3 ?_)
        all_goals
          go_wp2
          go_roundw
          case rel => exact ⟨k + 1, _, by omega, by go_num, E6, by rw [HS.out]; exact F6.out, M6'.out, M6.out⟩
          case measure => simp [intOf]; omega
    · have dk : ((k : Int) < (n : Int)) = False := eq_false (by omega)
      obtain ⟨HA0, HB0⟩ : (∀ y, famL L k (true, y) = aboveL L y) ∧ ∀ y, famL L k (false, y) = belowL L y := ⟨fun y => (famL_full (by rw [HN.out]; omega) y).1, fun y => (famL_full (by rw [HN.out]; omega) y).2⟩
      -- what a look-up gives, in every later world
      have HUP := Lib.hid (fun (y : Int) (h1 : -4096 ≤ y) (h2 : y ≤ 4096) => show ∃ Ay my cy, (aboveL L y).length = my ∧ my ≤ 1024 ∧ ∀ W, Ext wr W → (Instr.lookup 74 (.map (some B4)) (.int .i64 y) false).run Tryz.prog W = .ok (.slice Ay my cy) W ∧ rectE.At W Ay (aboveL L y) from by
        have ho := hf.own (true, y)
        rw [HA0] at ho
        have hl : (aboveL L y).length ≤ 1024 := Nat.le_trans (List.length_filter_le _ _) (by rw [HN.out]; exact hb)
        obtain ⟨Ay, cy, e, _, hat⟩ := ho.at rfl (by omega)
        refine ⟨Ay, _, cy, rfl, hl, fun W k' => ⟨?_, hat.ext k'⟩⟩
        rw [← e]
        exact (hm1.ext k').look keyed_int Tryz.underlying74 (zero_rects _) (y := y) (kv_key h1 h2))
      have HDN := Lib.hid (fun (y : Int) (h1 : -4096 ≤ y) (h2 : y ≤ 4096) => show ∃ Ay my cy, (belowL L y).length = my ∧ my ≤ 1024 ∧ ∀ W, Ext wr W → (Instr.lookup 74 (.map (some (B4 + 1))) (.int .i64 y) false).run Tryz.prog W = .ok (.slice Ay my cy) W ∧ rectE.At W Ay (belowL L y) from by
        have ho := hf.own (false, y)
        rw [HB0] at ho
        have hl : (belowL L y).length ≤ 1024 := Nat.le_trans (List.length_filter_le _ _) (by rw [HN.out]; exact hb)
        obtain ⟨Ay, cy, e, _, hat⟩ := ho.at rfl (by omega)
        refine ⟨Ay, _, cy, rfl, hl, fun W k' => ⟨?_, hat.ext k'⟩⟩
        rw [← e]
        exact (hm2.ext k').look keyed_int Tryz.underlying74 (zero_rects _) (y := y) (kv_key h1 h2))
      clear HA0 HB0 hf hm1 hm2
      have HE := Lib.hid hE
      have HLB := Lib.hid (show L.length ≤ 1024 by rw [HN.out]; exact hb)
      have hA' := hA.ext hE
      clear hA hE
      generalize wr = w5 at *
      go_wp2_with fail
      go_loopw [3, 45] (fun s i wr => ∃ k : Nat, k ≤ n ∧ i = .int .i64 k ∧ Ext w5 wr ∧ edgE.Own wr w5.heap.size s ((L.take k).flatMap (rectE4 L))) (fun _ i _ => n - (intOf i).toNat)
      case atStart => exact ⟨0, Nat.zero_le _, rfl, Ext.refl _, EL.Own.nil _ _⟩
      case round =>
        obtain ⟨k, hk, rfl, hE, hown⟩ := hrel
        by_cases hlt : k < n
        · have dk : ((k : Int) < (n : Int)) = True := eq_true (by omega)
          obtain ⟨⟨x0, x1, x2, x3⟩, hlk⟩ : ∃ q, L[k]? = some q := ⟨_, List.getElem?_eq_getElem (by rw [HN.out]; exact hlt)⟩
          obtain ⟨c0, c1, c2, c3⟩ := HBD.out _ (List.mem_of_getElem? hlk)
          dsimp only at c0 c1 c2 c3
          obtain ⟨bb, o, rfl⟩ := hA'.addr hlk
          obtain ⟨e0, e1, e2, e3⟩ := rect_cell hA' hlk
          dsimp only at e0 e1 e2 e3
          replace e0 := hE.cell e0
          replace e1 := hE.cell e1
          replace e2 := hE.cell e2
          replace e3 := hE.cell e3
          obtain ⟨AU, mU, cU, hmU, hmUb, hU⟩ := HUP.out x1 c1.1 c1.2
          obtain ⟨AD, mD, cD, hmD, hmDb, hD⟩ := HDN.out x3 c3.1 c3.2
          have hEa := hE.trans (Ext.alloc wr (.cells #[.int .i64 x0, .int .i64 x1, .int .i64 x2, .int .i64 x3] 34))
          have b9 := Box.new wr 34 #[.int .i64 x0, .int .i64 x1, .int .i64 x2, .int .i64 x3]
          have c9 := b9.cell
          have hownA := hown.ext (Ext.alloc wr (.cells #[.int .i64 x0, .int .i64 x1, .int .i64 x2, .int .i64 x3] 34))
          obtain ⟨lkU, atU⟩ := hU _ hEa
          have HUC := Lib.hid (uncovered_any x0 x2 (aboveL L x1) AU mU cU _ hmU (by omega) atU)
          have HDC := Lib.hid (fun W (k : Ext w5 W) => uncovered_any x0 x2 (belowL L x3) AD mD cD W hmD (by omega) (hD W k).2)
          have HDL := Lib.hid (fun W (k : Ext w5 W) => (hD W k).1)
          have HK := Lib.hid hlk
          have HUN := Lib.hid (unc_length (x1 := x2) (aboveL L x1) x0)
          have HDN' := Lib.hid (unc_length (x1 := x2) (belowL L x3) x0)
          have HTP := Lib.hid (show topE L (x0, x1, x2, x3) = (unc x2 x0 (aboveL L x1)).map fun p => (p.1, x1, p.2, x1, 0) from rfl)
          have HBT := Lib.hid (show botE L (x0, x1, x2, x3) = (unc x2 x0 (belowL L x3)).map fun p => (p.2, x3, p.1, x3, 2) from rfl)
          have HXL := Lib.hid (fun X (hX : X <+: rectE4 L (x0, x1, x2, x3)) => edges_part hlk hX HLB.out)
          rw [hmU] at HUN
          rw [hmD] at HDN'
          clear hmU hmD hU hD atU hlk c0 c1 c2 c3
          generalize unc x2 x0 (aboveL L x1) = UP at *
          generalize unc x2 x0 (belowL L x3) = DN at *
          obtain ⟨B9, hB9⟩ : ∃ B9, wr.heap.size = B9 := ⟨_, rfl⟩
          rw [hB9] at b9 c9
          clear hown hE
          go_wp2_with fail
          clear hB9 e0 e1 e2 e3
          refine HUC.out.mono ?_
          rintro e w6 ⟨v, rfl, hE6, hownU⟩
          obtain ⟨nU, hnU⟩ : ∃ nU, UP.length = nU := ⟨_, rfl⟩
          have HNU := Lib.hid hnU
          obtain ⟨AP, cP, rfl, _, atP⟩ := hownU.at hnU (by have := HUN.out; omega)
          have hnUb : nU ≤ 1025 := by have := HUN.out; omega
          have hownUP := hownU.lower hEa.size
          replace hEa := hEa.trans hE6
          replace hownA := hownA.ext hE6
          replace b9 := b9.ext hE6
          have hX0 : ((L.take k).flatMap (rectE4 L)).length ≤ 2101248 := by have := HXL.out [] List.nil_prefix; rw [List.append_nil] at this; exact this
          generalize hX0e : (L.take k).flatMap (rectE4 L) = X0 at *
          have HX0 := Lib.hid hX0e
          clear hnU hownU hE6 HUC lkU c9 atP hX0e
          have c9 := b9.cell
          go_wp2_with fail
          go_loopw [3, 59] (fun s i wz => ∃ q : Nat, q ≤ nU ∧ i = .int .i64 q ∧ Ext w5 wz ∧ Box wz B9 34 #[.int .i64 x0, .int .i64 x1, .int .i64 x2, .int .i64 x3] ∧ prE.Own wz w5.heap.size (.slice AP nU cP) UP ∧ edgE.Own wz w5.heap.size s (X0 ++ (UP.take q).map (fun p : Int × Int => ((p.1, x1, p.2, x1, 0) : Edg)))) (fun _ i _ => nU - (intOf i).toNat)
          case atStart => exact ⟨0, Nat.zero_le _, rfl, hEa, b9, hownUP, by rw [List.take_zero, List.map_nil, List.append_nil]; exact hownA⟩
          case round =>
            clear hEa b9 hownA c9 hownUP
            obtain ⟨q, hq, rfl, hEa, b9, hownUP, hownA⟩ := hrel
            have c9 := b9.cell
            by_cases hlt2 : q < nU
            · have dq : ((q : Int) < (nU : Int)) = True := eq_true (by omega)
              obtain ⟨⟨p0, p1⟩, hp⟩ : ∃ p, UP[q]? = some p := ⟨_, List.getElem?_eq_getElem (by rw [HNU.out]; exact hlt2)⟩
              obtain ⟨b', o', rfl, f0, f1⟩ : ∃ b' o', AP = some ⟨b', o', none⟩ ∧ wr.cell? ⟨b', o' + q * 2, none⟩ = some (.int .i64 p0) ∧ wr.cell? ⟨b', o' + q * 2 + 1, none⟩ = some (.int .i64 p1) := pr_own hownUP hp
              have HS2 := Lib.hid (map_snoc (fun p : Int × Int => ((p.1, x1, p.2, x1, 0) : Edg)) X0 hp)
              have hll : (X0 ++ (UP.take q).map (fun p : Int × Int => ((p.1, x1, p.2, x1, 0) : Edg))).length + ([(p0, x1, p1, x1, 0)] : List Edg).length ≤ 1000000000 := by
                rw [List.length_append, List.length_map, List.length_take]; simp only [List.length_singleton]; omega
              clear hp
              generalize X0 ++ (UP.take q).map (fun p : Int × Int => ((p.1, x1, p.2, x1, 0) : Edg)) = R at *
              have hEb := (hEa.trans (Ext.alloc wr (.cells #[.int .i64 p0, .int .i64 p1] 59))).trans (Ext.alloc _ (.cells #[.int .i64 p0, .int .i64 x1, .int .i64 p1, .int .i64 x1, .int .i64 0] 44))
              have hownB := (hownA.ext (Ext.alloc wr (.cells #[.int .i64 p0, .int .i64 p1] 59))).ext (Ext.alloc _ (.cells #[.int .i64 p0, .int .i64 x1, .int .i64 p1, .int .i64 x1, .int .i64 0] 44))
              have hownC := (hownUP.ext (Ext.alloc wr (.cells #[.int .i64 p0, .int .i64 p1] 59))).ext (Ext.alloc _ (.cells #[.int .i64 p0, .int .i64 x1, .int .i64 p1, .int .i64 x1, .int .i64 0] 44))
              have b9B := (b9.alloc (.cells #[.int .i64 p0, .int .i64 p1] 59)).alloc (.cells #[.int .i64 p0, .int .i64 x1, .int .i64 p1, .int .i64 x1, .int .i64 0] 44)
              have c9B := (b9.alloc (.cells #[.int .i64 p0, .int .i64 p1] 59)).cell
              have b11 := (Box.new wr 59 #[.int .i64 p0, .int .i64 p1]).cell
              have hrow := EL.rowOne (E := edgE) (x := (p0, x1, p1, x1, 0)) (Box.at1 (w := wr) (o := .cells #[.int .i64 p0, .int .i64 p1] 59) (t := 44) (cs := #[.int .i64 p0, .int .i64 x1, .int .i64 p1, .int .i64 x1, .int .i64 0])) rfl
              have hsz := hEb.size
              have hne9 := own_ne_typeG hownB b9B (by decide)
              have HC := Lib.hid hownC
              clear hownA hownUP hownC
              go_wp2_with (at_builtin; refine EL.wpApp edgE rfl _ _ rfl w5.heap.size _ _ R [(p0, x1, p1, x1, 0)] rfl rfl hownB hrow hll hsz ?_; intro v1 W1 own1 gr1 _)
              have hE2 := growExt hEb hownB (Nat.le_refl _) gr1
              have hownD := own_kept HC.out hownB (by decide) gr1
              go_roundw
              case rel => exact ⟨q + 1, by omega, by go_num, hE2, boxGrown b9B gr1 hne9, hownD, by rw [HS2.out]; exact own1⟩
              case measure => simp [intOf]; omega
            · have dq : ((q : Int) < (nU : Int)) = False := eq_false (by omega)
              have HT := Lib.hid (show X0 ++ (UP.take q).map (fun p : Int × Int => ((p.1, x1, p.2, x1, 0) : Edg)) = X0 ++ topE L (x0, x1, x2, x3) from by rw [List.take_of_length_le (by rw [HNU.out]; omega), HTP.out])
              rw [HT.out] at hownA
              have HL1 := Lib.hid (HXL.out (topE L (x0, x1, x2, x3)) ⟨_, rfl⟩)
              have HL2 := Lib.hid (HXL.out (topE L (x0, x1, x2, x3) ++ [downE (x0, x1, x2, x3)]) ⟨botE L (x0, x1, x2, x3) ++ [upE (x0, x1, x2, x3)], by unfold rectE4; simp⟩)
              have HL3 := Lib.hid (HXL.out (topE L (x0, x1, x2, x3) ++ downE (x0, x1, x2, x3) :: botE L (x0, x1, x2, x3)) ⟨[upE (x0, x1, x2, x3)], by unfold rectE4; simp⟩)
              have HR4 := Lib.hid (show ((X0 ++ topE L (x0, x1, x2, x3)) ++ [(x2, x1, x2, x3, 1)] ++ botE L (x0, x1, x2, x3)) ++ [(x0, x3, x0, x1, 3)] = X0 ++ rectE4 L (x0, x1, x2, x3) from by unfold rectE4 downE upE; simp)
              have HL2' : ((X0 ++ topE L (x0, x1, x2, x3)) ++ [(x2, x1, x2, x3, 1)]).length ≤ 2101248 := by have := HL2.out; rw [← List.append_assoc] at this; exact this
              have hll : (X0 ++ topE L (x0, x1, x2, x3)).length + ([(x2, x1, x2, x3, 1)] : List Edg).length ≤ 1000000000 := by have := HL1.out; simp only [List.length_singleton]; omega
              have HL3' := Lib.hid (show (((X0 ++ topE L (x0, x1, x2, x3)) ++ [(x2, x1, x2, x3, 1)]) ++ botE L (x0, x1, x2, x3)).length ≤ 2101248 from by have := HL3.out; rw [show ((X0 ++ topE L (x0, x1, x2, x3)) ++ [(x2, x1, x2, x3, 1)]) ++ botE L (x0, x1, x2, x3) = X0 ++ (topE L (x0, x1, x2, x3) ++ downE (x0, x1, x2, x3) :: botE L (x0, x1, x2, x3)) from by unfold downE; simp]; exact this)
              clear HL1 HL2 HL3 hownUP HTP HXL hX0
              generalize topE L (x0, x1, x2, x3) = TP at *
              generalize botE L (x0, x1, x2, x3) = BT at *
              have hEb := hEa.trans (Ext.alloc wr (.cells #[.int .i64 x2, .int .i64 x1, .int .i64 x2, .int .i64 x3, .int .i64 1] 44))
              have hownB := hownA.ext (Ext.alloc wr (.cells #[.int .i64 x2, .int .i64 x1, .int .i64 x2, .int .i64 x3, .int .i64 1] 44))
              have b9B := b9.alloc (.cells #[.int .i64 x2, .int .i64 x1, .int .i64 x2, .int .i64 x3, .int .i64 1] 44)
              have hrow := EL.rowOne (E := edgE) (x := (x2, x1, x2, x3, 1)) (Box.new wr 44 #[.int .i64 x2, .int .i64 x1, .int .i64 x2, .int .i64 x3, .int .i64 1]) rfl
              have hsz := hEb.size
              have hne9 := own_ne_typeG hownB b9B (by decide)
              clear hownA
              go_wp2_with (at_builtin; refine EL.wpApp edgE rfl _ _ rfl w5.heap.size _ _ (X0 ++ TP) [(x2, x1, x2, x3, 1)] rfl rfl hownB hrow hll hsz ?_; intro v1 W1 own1 gr1 _; have lkD := HDL.out _ (growExt hEb hownB (Nat.le_refl _) gr1); have b9' := boxGrown b9B gr1 hne9; clear c9; have c9 := b9'.cell)
              replace hEa := growExt hEb hownB (Nat.le_refl _) gr1
              clear hEb b9B hrow hsz hne9 hownB gr1 b9
              generalize hX1e : (X0 ++ TP) ++ [(x2, x1, x2, x3, 1)] = X1 at *
              have HX1 := Lib.hid hX1e
              have hX1 := HL2'
              clear hX1e hll HL2' HT
              refine (HDC.out _ hEa).mono ?_
              rintro e w7 ⟨v, rfl, hE7, hownD⟩
              obtain ⟨nD, hnD⟩ : ∃ nD, DN.length = nD := ⟨_, rfl⟩
              have HND := Lib.hid hnD
              obtain ⟨AQ, cQ, rfl, _, _⟩ := hownD.at hnD (by have := HDN'.out; omega)
              have hnDb : nD ≤ 1025 := by have := HDN'.out; omega
              have hownDN := hownD.lower hEa.size
              replace hEa := hEa.trans hE7
              have hownA := own1.ext hE7
              have b9 := b9'.ext hE7
              clear hnD hownD hE7 lkD c9 b9' own1
              have c9 := b9.cell
              go_wp2_with fail
              go_loopw [3, 102] (fun s i wz => ∃ q : Nat, q ≤ nD ∧ i = .int .i64 q ∧ Ext w5 wz ∧ Box wz B9 34 #[.int .i64 x0, .int .i64 x1, .int .i64 x2, .int .i64 x3] ∧ prE.Own wz w5.heap.size (.slice AQ nD cQ) DN ∧ edgE.Own wz w5.heap.size s (X1 ++ (DN.take q).map (fun p : Int × Int => ((p.2, x3, p.1, x3, 2) : Edg)))) (fun _ i _ => nD - (intOf i).toNat)
              case atStart => exact ⟨0, Nat.zero_le _, rfl, hEa, b9, hownDN, by rw [List.take_zero, List.map_nil, List.append_nil]; exact hownA⟩
              case round =>
                clear hEa b9 hownA c9 hownDN
                obtain ⟨q, hq, rfl, hEa, b9, hownDN, hownA⟩ := hrel
                have c9 := b9.cell
                by_cases hlt2 : q < nD
                · have dq : ((q : Int) < (nD : Int)) = True := eq_true (by omega)
                  obtain ⟨⟨p0, p1⟩, hp⟩ : ∃ p, DN[q]? = some p := ⟨_, List.getElem?_eq_getElem (by rw [HND.out]; exact hlt2)⟩
                  obtain ⟨b', o', rfl, f0, f1⟩ : ∃ b' o', AQ = some ⟨b', o', none⟩ ∧ wr.cell? ⟨b', o' + q * 2, none⟩ = some (.int .i64 p0) ∧ wr.cell? ⟨b', o' + q * 2 + 1, none⟩ = some (.int .i64 p1) := pr_own hownDN hp
                  have HS2 := Lib.hid (map_snoc (fun p : Int × Int => ((p.2, x3, p.1, x3, 2) : Edg)) X1 hp)
                  have hll : (X1 ++ (DN.take q).map (fun p : Int × Int => ((p.2, x3, p.1, x3, 2) : Edg))).length + ([(p1, x3, p0, x3, 2)] : List Edg).length ≤ 1000000000 := by
                    rw [List.length_append, List.length_map, List.length_take]; simp only [List.length_singleton]; omega
                  clear hp
                  generalize X1 ++ (DN.take q).map (fun p : Int × Int => ((p.2, x3, p.1, x3, 2) : Edg)) = R at *
                  have hEb := (hEa.trans (Ext.alloc wr (.cells #[.int .i64 p0, .int .i64 p1] 59))).trans (Ext.alloc _ (.cells #[.int .i64 p1, .int .i64 x3, .int .i64 p0, .int .i64 x3, .int .i64 2] 44))
                  have hownB := (hownA.ext (Ext.alloc wr (.cells #[.int .i64 p0, .int .i64 p1] 59))).ext (Ext.alloc _ (.cells #[.int .i64 p1, .int .i64 x3, .int .i64 p0, .int .i64 x3, .int .i64 2] 44))
                  have hownC := (hownDN.ext (Ext.alloc wr (.cells #[.int .i64 p0, .int .i64 p1] 59))).ext (Ext.alloc _ (.cells #[.int .i64 p1, .int .i64 x3, .int .i64 p0, .int .i64 x3, .int .i64 2] 44))
                  have b9B := (b9.alloc (.cells #[.int .i64 p0, .int .i64 p1] 59)).alloc (.cells #[.int .i64 p1, .int .i64 x3, .int .i64 p0, .int .i64 x3, .int .i64 2] 44)
                  have c9B := (b9.alloc (.cells #[.int .i64 p0, .int .i64 p1] 59)).cell
                  have b11 := (Box.new wr 59 #[.int .i64 p0, .int .i64 p1]).cell
                  have hrow := EL.rowOne (E := edgE) (x := (p1, x3, p0, x3, 2)) (Box.at1 (w := wr) (o := .cells #[.int .i64 p0, .int .i64 p1] 59) (t := 44) (cs := #[.int .i64 p1, .int .i64 x3, .int .i64 p0, .int .i64 x3, .int .i64 2])) rfl
                  have hsz := hEb.size
                  have hne9 := own_ne_typeG hownB b9B (by decide)
                  have HC := Lib.hid hownC
                  clear hownA hownDN hownC
                  go_wp2_with (at_builtin; refine EL.wpApp edgE rfl _ _ rfl w5.heap.size _ _ R [(p1, x3, p0, x3, 2)] rfl rfl hownB hrow hll hsz ?_; intro v1 W1 own1 gr1 _)
                  have hE2 := growExt hEb hownB (Nat.le_refl _) gr1
                  have hownD := own_kept HC.out hownB (by decide) gr1
                  go_roundw
                  case rel => exact ⟨q + 1, by omega, by go_num, hE2, boxGrown b9B gr1 hne9, hownD, by rw [HS2.out]; exact own1⟩
                  case measure => simp [intOf]; omega
                · have dq : ((q : Int) < (nD : Int)) = False := eq_false (by omega)
                  have HT := Lib.hid (show X1 ++ (DN.take q).map (fun p : Int × Int => ((p.2, x3, p.1, x3, 2) : Edg)) = X1 ++ BT from by rw [List.take_of_length_le (by rw [HND.out]; omega), HBT.out])
                  rw [HT.out] at hownA
                  have hll : (X1 ++ BT).length + ([(x0, x3, x0, x1, 3)] : List Edg).length ≤ 1000000000 := by have := HL3'.out; simp only [List.length_singleton]; omega
                  have HFIN := Lib.hid (show (L.take (k + 1)).flatMap (rectE4 L) = (X1 ++ BT) ++ [(x0, x3, x0, x1, 3)] from by rw [take_snocG HK.out, List.flatMap_append, HX0.out, HR4.out]; simp)
                  clear hownDN
                  have hEb := hEa.trans (Ext.alloc wr (.cells #[.int .i64 x0, .int .i64 x3, .int .i64 x0, .int .i64 x1, .int .i64 3] 44))
                  have hownB := hownA.ext (Ext.alloc wr (.cells #[.int .i64 x0, .int .i64 x3, .int .i64 x0, .int .i64 x1, .int .i64 3] 44))
                  have b9B := b9.alloc (.cells #[.int .i64 x0, .int .i64 x3, .int .i64 x0, .int .i64 x1, .int .i64 3] 44)
                  have hrow := EL.rowOne (E := edgE) (x := (x0, x3, x0, x1, 3)) (Box.new wr 44 #[.int .i64 x0, .int .i64 x3, .int .i64 x0, .int .i64 x1, .int .i64 3]) rfl
                  have hsz := hEb.size
                  have hne9 := own_ne_typeG hownB b9B (by decide)
                  clear hownA
                  go_wp2_with (at_builtin; refine EL.wpApp edgE rfl _ _ rfl w5.heap.size _ _ (X1 ++ BT) [(x0, x3, x0, x1, 3)] rfl rfl hownB hrow hll hsz ?_; intro v1 W1 own1 gr1 _)
                  have hE2 := growExt hEb hownB (Nat.le_refl _) gr1
                  go_roundw
                  case rel => exact ⟨k + 1, by omega, by go_num, hE2, by rw [HFIN.out]; exact own1⟩
                  case measure => simp [intOf]; omega
        · have dk : ((k : Int) < (n : Int)) = False := eq_false (by omega)
          have HF := Lib.hid (show (L.take k).flatMap (rectE4 L) = edgesOf L from by rw [List.take_of_length_le (by rw [HN.out]; omega)]; rfl)
          rw [HF.out] at hown
          obtain ⟨A6, c6, rfl, _, _⟩ := hown.len
          go_wp2
          go_ret
          exact ⟨_, rfl, HE.out.trans hE, hown.lower HE.out.size⟩
end Go.Proofs.YtkjpcjmbhpfelaaGreat
