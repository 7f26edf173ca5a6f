/- The reference's Winding of rings. -/
import Derived.Test.YtkjpcjmbhpfelaaRgWinD
set_option linter.unusedVariables false
set_option linter.unusedSimpArgs false
namespace Go.Proofs.Ytkjpcjmbhpfelaa
open Go.RowKit Go.Par Go.Reg Go.Maps

theorem pts_cell {w : World} {b o : Nat} {l : List Sl} (h : ptsE.At w (some ⟨b, o, none⟩) l) {k : Nat} {s : Sl} (hk : l[k]? = some s) : w.cell? ⟨b, o + k, none⟩ = some (.slice s.1 s.2.1 s.2.2) := by
  have := h.cellAt (j := 0) hk rfl
  simpa [ptsE] using this
def winR (X Y : Int) (R : List Crn) : Int := cycTo (fW X Y) R R.length
theorem winR_bd {S : Pix} (X Y : Int) {O : List (List Crn)} (h : ∀ R ∈ O, R ≠ []) (k : Nat) (hk : k ≤ O.length) (hs : sumL (O.map fun R => (R.length : Int)) ≤ 2101248) : -2101248 ≤ upTo (winR X Y) O k ∧ upTo (winR X Y) O k ≤ 2101248 := by
  have h1 := upTo_bd (winR X Y) 1 (O := O) (fun R hR => by have := fW_bd (h R hR) X Y R.length (Nat.le_refl _); unfold winR; omega) k hk
  have h2 := upTo_len O k
  omega
set_option maxRecDepth 100000 in
set_option maxHeartbeats 6400000 in
theorem rWinding_any (T : List RSl) (A : Option Addr) (n c : Nat) (X Y px py : Int) (w : World) (hn : T.length = n) (hnb : n ≤ 10000000) (hA : ptsE.At w A (T.map fun t => t.1)) (hT : ∀ t ∈ T, RingRow w t) (hs : sumL ((T.map fun t => t.2).map fun R => (R.length : Int)) ≤ 2101248)
    (hX : px = 256 * X + 128) (hY : py = 256 * Y + 128) (bX : -1000 ≤ X ∧ X ≤ 1000) (bY : -1000 ≤ Y ∧ Y ≤ 1000) :
    Calls Try.prog 42 #[.slice A n c, .agg #[.int .i64 px, .int .i64 py]] w fun e w' => e = .returned (.int .i64 (sumL ((T.map fun t => t.2).map (winR X Y)))) ∧ Ext w w' := by
  have HN := Lib.hid hn
  have HX := Lib.hid hX
  have HY := Lib.hid hY
  have HT := Lib.hid hT
  have HNE := Lib.hid (show ∀ R ∈ T.map (fun t => t.2), R ≠ [] from fun R hR => by obtain ⟨t, ht, rfl⟩ := List.mem_map.1 hR; exact (hT t ht).2.2.1)
  have HBD := Lib.hid (fun k (hk : k ≤ n) => winR_bd (S := fun _ _ => false) X Y HNE.out k (by rw [List.length_map, hn]; exact hk) hs)
  clear hn hX hY hs hT
  have hE0 := Ext.alloc w (.cells #[.int .i64 px, .int .i64 py] 54)
  have b3 := Box.new w 54 #[.int .i64 px, .int .i64 py]
  obtain ⟨B3, hB3⟩ : ∃ B3, w.heap.size = B3 := ⟨_, rfl⟩
  rw [hB3] at b3
  go_enter Try.func42, Try.ntmps42
  go_wp2_with fail
  clear hB3
  generalize World.alloc _ _ = w1 at *
  go_loopw [5, 6] (fun s i wr => ∃ k : Nat, k ≤ n ∧ i = .int .i64 k ∧ s = .int .i64 (upTo (winR X Y) (T.map fun t => t.2) k) ∧ Ext w wr ∧ Box wr B3 54 #[.int .i64 px, .int .i64 py]) (fun _ i _ => n - (intOf i).toNat)
  case atStart => exact ⟨0, Nat.zero_le _, rfl, by rw [upTo_zero], hE0, b3⟩
  case round =>
    clear hE0 b3
    obtain ⟨i, hi, rfl, rfl, hE, b3⟩ := hrel
    by_cases hlt : i < n
    · have dk : ((i : Int) < (n : Int)) = True := eq_true (by omega)
      obtain ⟨⟨⟨A', m, c'⟩, R⟩, hti⟩ : ∃ t, T[i]? = some t := ⟨_, List.getElem?_eq_getElem (by rw [HN.out]; exact hlt)⟩
      obtain ⟨r1, r2, r3, r4, r5⟩ := HT.out _ (List.mem_of_getElem? hti)
      dsimp only at r1 r2 r3 r4 r5
      have hs1 : (T.map fun t => t.1)[i]? = some (A', m, c') := by rw [List.getElem?_map, hti]; rfl
      obtain ⟨bo, oo, rfl⟩ := hA.addr hs1
      have e0 := pts_cell hA hs1
      dsimp only at e0
      have hatR := r5.at
      have hs2 : (T.map fun t => t.2)[i]? = some R := by rw [List.getElem?_map, hti]; rfl
      have HUP := Lib.hid (upTo_succ (winR X Y) hs2)
      have hub := HBD.out i hi
      have hpos : 0 < m := by rw [← r1]; exact List.length_pos_iff.2 r3
      have HCT := Lib.hid (fun k (hk : k < m) => cycTo_nx (f := fW X Y) r3 (k := k) (by rw [r1]; exact hk))
      have HNX := Lib.hid (fun k => nx_get r3 k)
      rw [r1] at HNX
      have HWB := Lib.hid (fun k (hk : k ≤ m) => fW_bd r3 X Y k (by rw [r1]; exact hk))
      have HR1 := Lib.hid r1
      generalize upTo (winR X Y) (T.map fun t => t.2) i = u at *
      clear hti hs1 hs2 r1 r3 r4 r5
      have x0 := hE.cell e0
      go_wp2_with fail
      clear x0
      go_loopw [5, 7] (fun s j wz => ∃ k : Nat, k ≤ m ∧ j = .int .i64 k ∧ s = .int .i64 (u + cycTo (fW X Y) R k) ∧ Ext w wz ∧ Box wz B3 54 #[.int .i64 px, .int .i64 py]) (fun _ j _ => m - (intOf j).toNat)
      case atStart => exact ⟨0, Nat.zero_le _, rfl, by rw [show cycTo (fW X Y) R 0 = 0 from rfl, Int.add_zero], hE, b3⟩
      case round =>
        clear hE b3
        obtain ⟨k, hk, rfl, rfl, hE, b3⟩ := hrel
        have x0 := hE.cell e0
        by_cases hlt2 : k < m
        · have dk2 : ((k : Int) < (m : Int)) = True := eq_true (by omega)
          obtain ⟨j, hj⟩ : ∃ j, j = (k + 1) % m := ⟨_, rfl⟩
          have hjm : j < m := by rw [hj]; exact Nat.mod_lt _ hpos
          have hp := HNX.out k
          rw [Nat.mod_eq_of_lt hlt2] at hp
          have hq := HNX.out (k + 1)
          rw [← hj] at hq
          have hct := HCT.out k hlt2
          have hwb := HWB.out k hk
          have hwb2 := HWB.out (k + 1) hlt2
          rw [hct] at hwb2
          generalize nx R k = p at *
          generalize nx R (k + 1) = q at *
          obtain ⟨p1, p2, pd⟩ := p
          obtain ⟨q1, q2, qd⟩ := q
          dsimp only at hct hwb2
          have hpm : (R.map scl)[k]? = some (p1 * 256, p2 * 256) := by rw [List.getElem?_map, hp]; rfl
          have hqm : (R.map scl)[j]? = some (q1 * 256, q2 * 256) := by rw [List.getElem?_map, hq]; rfl
          obtain ⟨b, o, rfl⟩ := hatR.addr hpm
          obtain ⟨y0, y1⟩ := pt_cell hatR hpm
          obtain ⟨z0, z1⟩ := pt_cell hatR hqm
          replace y0 := hE.cell y0
          replace y1 := hE.cell y1
          replace z0 := hE.cell z0
          replace z1 := hE.cell z1
          have m1 := tmod_cast k m
          have m2 := emod_cast k m
          rw [← hj] at m1 m2
          have w1' : IntKind.i64.wrap ((k : Int) + 1) = (k : Int) + 1 := IntWalk.i64_in _ (by omega)
          have q3 : ¬ m = 0 := by omega
          have HC := Lib.hid hct
          clear hp hq hpm hqm hj hct
          go_wp2_with fail
          go_region_held3 (fun w' => w'.cell? ⟨bo, oo + i, none⟩ = some (.slice (some ⟨b, o, none⟩) m c') ∧ w'.cell? ⟨b, o + k * 2, none⟩ = some (.int .i64 (p1 * 256)) ∧ w'.cell? ⟨b, o + k * 2 + 1, none⟩ = some (.int .i64 (p2 * 256)) ∧ w'.cell? ⟨b, o + j * 2, none⟩ = some (.int .i64 (q1 * 256)) ∧ w'.cell? ⟨b, o + j * 2 + 1, none⟩ = some (.int .i64 (q2 * 256))) (go_keep) (fail)
          · rename_i hHeld
            have b8 := ((Box.new wr 54 #[.int .i64 (p1 * 256), .int .i64 (p2 * 256)]).alloc (.cells #[.int .i64 (q1 * 256), .int .i64 (q2 * 256)] 54)).drew
            have b9 := (Box.at1 (w := wr) (o := (.cells #[.int .i64 (p1 * 256), .int .i64 (p2 * 256)] 54)) (t := 54) (cs := #[.int .i64 (q1 * 256), .int .i64 (q2 * 256)])).drew
            replace hE := (((hE.trans (Ext.alloc wr (.cells #[.int .i64 (p1 * 256), .int .i64 (p2 * 256)] 54))).trans (Ext.alloc _ (.cells #[.int .i64 (q1 * 256), .int .i64 (q2 * 256)] 54))).trans (Ext.drew _))
            replace b3 := ((b3.alloc (.cells #[.int .i64 (p1 * 256), .int .i64 (p2 * 256)] 54)).alloc (.cells #[.int .i64 (q1 * 256), .int .i64 (q2 * 256)] 54)).drew
            clear hHeld
            generalize World.drew _ = W at *
            have c8 := b8.cell
            have c9 := b9.cell
            have c3 := b3.cell
            clear x0 y0 y1 z0 z1 m1 m2
            generalize wr.heap.size + 1 = B5 at *
            generalize wr.heap.size = B4 at *
            obtain ⟨a1, h1⟩ : ∃ a, p1 * 256 = a := ⟨_, rfl⟩
            obtain ⟨a2, h2⟩ : ∃ a, p2 * 256 = a := ⟨_, rfl⟩
            obtain ⟨d1, h3⟩ : ∃ a, q1 * 256 = a := ⟨_, rfl⟩
            obtain ⟨d2, h4⟩ : ∃ a, q2 * 256 = a := ⟨_, rfl⟩
            rw [h1, h2] at c8 b8
            rw [h3, h4] at c9 b9
            simp only [h1, h2, h3, h4]
            have hX := HX.out
            have hY := HY.out
            by_cases t1 : p1 = q1
            · by_cases t2 : p1 ≤ X
              · have HV := Lib.hid (show fW X Y p1 p2 q1 q2 = 0 from by unfold fW; rw [if_pos (.inr t2)])
                have v1 : (a1 != d1) = false := by rw [← h1, ← h3, t1]; simp
                have v2 : (a1 ≤ px) = True := eq_true (by omega)
                clear h1 h2 h3 h4 hX hY t1 t2 hwb2
                go_wp2
                go_roundw
                case rel => exact ⟨k + 1, by omega, by go_num, by rw [HC.out, HV.out, Int.add_zero], hE, b3⟩
                case measure => simp [intOf]; omega
              · have v1 : (a1 != d1) = false := by rw [← h1, ← h3, t1]; simp
                have v2 : (a1 ≤ px) = False := eq_false (by omega)
                have hfw : fW X Y p1 p2 q1 q2 = (if p2 ≤ Y ∧ Y < q2 then 1 else 0) - (if q2 ≤ Y ∧ Y < p2 then 1 else 0) := by unfold fW; rw [if_neg (by omega)]
                by_cases t3 : p2 ≤ Y
                · have v3 : (a2 ≤ py) = True := eq_true (by omega)
                  have v6 : (py < a2) = False := eq_false (by omega)
                  by_cases t4 : q2 ≤ Y
                  · have v4 : (py < d2) = False := eq_false (by omega)
                    have v5 : (d2 ≤ py) = True := eq_true (by omega)
                    have HV := Lib.hid (show fW X Y p1 p2 q1 q2 = 0 from by rw [hfw, if_neg (by omega), if_neg (by omega)]; rfl)
                    clear h1 h2 h3 h4 hX hY t1 t2 t3 t4 hfw hwb2
                    go_wp2
                    go_roundw
                    case rel => exact ⟨k + 1, by omega, by go_num, by rw [HC.out, HV.out, Int.add_zero], hE, b3⟩
                    case measure => simp [intOf]; omega
                  · have v4 : (py < d2) = True := eq_true (by omega)
                    have v5 : (d2 ≤ py) = False := eq_false (by omega)
                    have HV := Lib.hid (show fW X Y p1 p2 q1 q2 = 1 from by rw [hfw, if_pos (by omega), if_neg (by omega)]; rfl)
                    rw [HV.out] at hwb2
                    have hkb : k ≤ 10000000 := by omega
                    have w7 : IntKind.i64.wrap (u + cycTo (fW X Y) R k + 1) = u + cycTo (fW X Y) R k + 1 := IntWalk.i64_in _ (by omega)
                    clear h1 h2 h3 h4 hX hY t1 t2 t3 t4 hfw hwb2
                    go_wp2
                    go_roundw
                    case rel => exact ⟨k + 1, by omega, by go_num, by rw [HC.out, HV.out, Int.add_assoc], hE, b3⟩
                    case measure => simp [intOf]; omega
                · have v3 : (a2 ≤ py) = False := eq_false (by omega)
                  have v6 : (py < a2) = True := eq_true (by omega)
                  by_cases t4 : q2 ≤ Y
                  · have v4 : (py < d2) = False := eq_false (by omega)
                    have v5 : (d2 ≤ py) = True := eq_true (by omega)
                    have HV := Lib.hid (show fW X Y p1 p2 q1 q2 = -1 from by rw [hfw, if_neg (by omega), if_pos (by omega)]; rfl)
                    rw [HV.out] at hwb2
                    have hkb : k ≤ 10000000 := by omega
                    have w7 : IntKind.i64.wrap (u + cycTo (fW X Y) R k - 1) = u + cycTo (fW X Y) R k - 1 := IntWalk.i64_in _ (by omega)
                    clear h1 h2 h3 h4 hX hY t1 t2 t3 t4 hfw hwb2
                    go_wp2
                    go_roundw
                    case rel => exact ⟨k + 1, by omega, by go_num, by rw [HC.out, HV.out]; congr 1; omega, hE, b3⟩
                    case measure => simp [intOf]; omega
                  · have v4 : (py < d2) = True := eq_true (by omega)
                    have v5 : (d2 ≤ py) = False := eq_false (by omega)
                    have HV := Lib.hid (show fW X Y p1 p2 q1 q2 = 0 from by rw [hfw, if_neg (by omega), if_neg (by omega)]; rfl)
                    clear h1 h2 h3 h4 hX hY t1 t2 t3 t4 hfw hwb2
                    go_wp2
                    go_roundw
                    case rel => exact ⟨k + 1, by omega, by go_num, by rw [HC.out, HV.out, Int.add_zero], hE, b3⟩
                    case measure => simp [intOf]; omega
            · have HV := Lib.hid (show fW X Y p1 p2 q1 q2 = 0 from by unfold fW; rw [if_pos (.inl t1)])
              have v1 : (a1 != d1) = true := by rw [bne_iff_ne]; omega
              have v2 : (a1 = d1) = False := eq_false (by omega)
              clear h1 h2 h3 h4 hX hY t1 hwb2
              go_wp2
              go_roundw
              case rel => exact ⟨k + 1, by omega, by go_num, by rw [HC.out, HV.out, Int.add_zero], hE, b3⟩
              case measure => simp [intOf]; omega
          · rename_i hHeld
            have b9 := ((Box.new wr 54 #[.int .i64 (q1 * 256), .int .i64 (q2 * 256)]).alloc (.cells #[.int .i64 (p1 * 256), .int .i64 (p2 * 256)] 54)).drew
            have b8 := (Box.at1 (w := wr) (o := (.cells #[.int .i64 (q1 * 256), .int .i64 (q2 * 256)] 54)) (t := 54) (cs := #[.int .i64 (p1 * 256), .int .i64 (p2 * 256)])).drew
            replace hE := (((hE.trans (Ext.alloc wr (.cells #[.int .i64 (q1 * 256), .int .i64 (q2 * 256)] 54))).trans (Ext.alloc _ (.cells #[.int .i64 (p1 * 256), .int .i64 (p2 * 256)] 54))).trans (Ext.drew _))
            replace b3 := ((b3.alloc (.cells #[.int .i64 (q1 * 256), .int .i64 (q2 * 256)] 54)).alloc (.cells #[.int .i64 (p1 * 256), .int .i64 (p2 * 256)] 54)).drew
            clear hHeld
            generalize World.drew _ = W at *
            have c8 := b8.cell
            have c9 := b9.cell
            have c3 := b3.cell
            clear x0 y0 y1 z0 z1 m1 m2
            generalize wr.heap.size + 1 = B5 at *
            generalize wr.heap.size = B4 at *
            obtain ⟨a1, h1⟩ : ∃ a, p1 * 256 = a := ⟨_, rfl⟩
            obtain ⟨a2, h2⟩ : ∃ a, p2 * 256 = a := ⟨_, rfl⟩
            obtain ⟨d1, h3⟩ : ∃ a, q1 * 256 = a := ⟨_, rfl⟩
            obtain ⟨d2, h4⟩ : ∃ a, q2 * 256 = a := ⟨_, rfl⟩
            rw [h1, h2] at c8 b8
            rw [h3, h4] at c9 b9
            simp only [h1, h2, h3, h4]
            have hX := HX.out
            have hY := HY.out
            by_cases t1 : p1 = q1
            · by_cases t2 : p1 ≤ X
              · have HV := Lib.hid (show fW X Y p1 p2 q1 q2 = 0 from by unfold fW; rw [if_pos (.inr t2)])
                have v1 : (a1 != d1) = false := by rw [← h1, ← h3, t1]; simp
                have v2 : (a1 ≤ px) = True := eq_true (by omega)
                clear h1 h2 h3 h4 hX hY t1 t2 hwb2
                go_wp2
                go_roundw
                case rel => exact ⟨k + 1, by omega, by go_num, by rw [HC.out, HV.out, Int.add_zero], hE, b3⟩
                case measure => simp [intOf]; omega
              · have v1 : (a1 != d1) = false := by rw [← h1, ← h3, t1]; simp
                have v2 : (a1 ≤ px) = False := eq_false (by omega)
                have hfw : fW X Y p1 p2 q1 q2 = (if p2 ≤ Y ∧ Y < q2 then 1 else 0) - (if q2 ≤ Y ∧ Y < p2 then 1 else 0) := by unfold fW; rw [if_neg (by omega)]
                by_cases t3 : p2 ≤ Y
                · have v3 : (a2 ≤ py) = True := eq_true (by omega)
                  have v6 : (py < a2) = False := eq_false (by omega)
                  by_cases t4 : q2 ≤ Y
                  · have v4 : (py < d2) = False := eq_false (by omega)
                    have v5 : (d2 ≤ py) = True := eq_true (by omega)
                    have HV := Lib.hid (show fW X Y p1 p2 q1 q2 = 0 from by rw [hfw, if_neg (by omega), if_neg (by omega)]; rfl)
                    clear h1 h2 h3 h4 hX hY t1 t2 t3 t4 hfw hwb2
                    go_wp2
                    go_roundw
                    case rel => exact ⟨k + 1, by omega, by go_num, by rw [HC.out, HV.out, Int.add_zero], hE, b3⟩
                    case measure => simp [intOf]; omega
                  · have v4 : (py < d2) = True := eq_true (by omega)
                    have v5 : (d2 ≤ py) = False := eq_false (by omega)
                    have HV := Lib.hid (show fW X Y p1 p2 q1 q2 = 1 from by rw [hfw, if_pos (by omega), if_neg (by omega)]; rfl)
                    rw [HV.out] at hwb2
                    have hkb : k ≤ 10000000 := by omega
                    have w7 : IntKind.i64.wrap (u + cycTo (fW X Y) R k + 1) = u + cycTo (fW X Y) R k + 1 := IntWalk.i64_in _ (by omega)
                    clear h1 h2 h3 h4 hX hY t1 t2 t3 t4 hfw hwb2
                    go_wp2
                    go_roundw
                    case rel => exact ⟨k + 1, by omega, by go_num, by rw [HC.out, HV.out, Int.add_assoc], hE, b3⟩
                    case measure => simp [intOf]; omega
                · have v3 : (a2 ≤ py) = False := eq_false (by omega)
                  have v6 : (py < a2) = True := eq_true (by omega)
                  by_cases t4 : q2 ≤ Y
                  · have v4 : (py < d2) = False := eq_false (by omega)
                    have v5 : (d2 ≤ py) = True := eq_true (by omega)
                    have HV := Lib.hid (show fW X Y p1 p2 q1 q2 = -1 from by rw [hfw, if_neg (by omega), if_pos (by omega)]; rfl)
                    rw [HV.out] at hwb2
                    have hkb : k ≤ 10000000 := by omega
                    have w7 : IntKind.i64.wrap (u + cycTo (fW X Y) R k - 1) = u + cycTo (fW X Y) R k - 1 := IntWalk.i64_in _ (by omega)
                    clear h1 h2 h3 h4 hX hY t1 t2 t3 t4 hfw hwb2
                    go_wp2
                    go_roundw
                    case rel => exact ⟨k + 1, by omega, by go_num, by rw [HC.out, HV.out]; congr 1; omega, hE, b3⟩
                    case measure => simp [intOf]; omega
                  · have v4 : (py < d2) = True := eq_true (by omega)
                    have v5 : (d2 ≤ py) = False := eq_false (by omega)
                    have HV := Lib.hid (show fW X Y p1 p2 q1 q2 = 0 from by rw [hfw, if_neg (by omega), if_neg (by omega)]; rfl)
                    clear h1 h2 h3 h4 hX hY t1 t2 t3 t4 hfw hwb2
                    go_wp2
                    go_roundw
                    case rel => exact ⟨k + 1, by omega, by go_num, by rw [HC.out, HV.out, Int.add_zero], hE, b3⟩
                    case measure => simp [intOf]; omega
            · have HV := Lib.hid (show fW X Y p1 p2 q1 q2 = 0 from by unfold fW; rw [if_pos (.inl t1)])
              have v1 : (a1 != d1) = true := by rw [bne_iff_ne]; omega
              have v2 : (a1 = d1) = False := eq_false (by omega)
              clear h1 h2 h3 h4 hX hY t1 hwb2
              go_wp2
              go_roundw
              case rel => exact ⟨k + 1, by omega, by go_num, by rw [HC.out, HV.out, Int.add_zero], hE, b3⟩
              case measure => simp [intOf]; omega
        · have dk2 : ((k : Int) < (m : Int)) = False := eq_false (by omega)
          have hkm : k = m := by omega
          have HV := Lib.hid (show u + cycTo (fW X Y) R k = upTo (winR X Y) (T.map fun t => t.2) (i + 1) from by rw [HUP.out, hkm, ← HR1.out]; rfl)
          clear hkm
          go_wp2
          go_roundw
          case rel => exact ⟨i + 1, by omega, by go_num, by rw [HV.out], hE, b3⟩
          case measure => simp [intOf]; omega
    · have dk : ((i : Int) < (n : Int)) = False := eq_false (by omega)
      have HV := Lib.hid (show upTo (winR X Y) (T.map fun t => t.2) i = sumL ((T.map fun t => t.2).map (winR X Y)) from upTo_full _ (by rw [List.length_map, HN.out]; omega))
      rw [HV.out]
      go_wp2
      go_ret
      exact ⟨rfl, hE⟩
end Go.Proofs.Ytkjpcjmbhpfelaa
