/- RegionRectLimit: the walk. -/
import Derived.Test.YtkjpcjmbhpfelaaRgLSet
import Derived.Laws.MakeOwn
set_option linter.unusedVariables false
set_option linter.unusedSimpArgs false
namespace Go.Proofs.Ytkjpcjmbhpfelaa
open Go.RowKit Go.Par Go.Reg

/-- a row of the call's own, and another that stays while the first grows -/
theorem own_two {P : Program} {α : Type} {E : EL P α} {w w' : World} {B : Nat} {va vb va' : Value} {la lb : List α} (ha : E.Own w B va la) (hb : E.Own w B vb lb) (hne : va.ownBlock ≠ vb.ownBlock) (hg : w.grownBy w' va.ownBlock)
    (hloc : va' = va ∨ va'.ownBlock = va.ownBlock ∨ va'.ownBlock = some w.heap.size) : E.Own w' B vb lb ∧ va'.ownBlock ≠ vb.ownBlock := by
  refine ⟨World.ownsRow.kept hb hg (.inr hne.symm), ?_⟩
  rcases hloc with e | e | e
  · rw [e]; exact hne
  · rw [e]; exact hne
  · rw [e]
    intro e2
    have := (World.ownsRow.lt hb _ e2.symm).2
    omega
theorem rowStrips_succ (k : Nat) : rowStrips (k + 1) = rowStrips k ++ [(0, ((2 * k : Nat) : Int), 90, ((2 * k + 1 : Nat) : Int))] := by simp [rowStrips, List.range_succ]
theorem colStrips_succ (k : Nat) : colStrips (k + 1) = colStrips k ++ [(((2 * k : Nat) : Int), 0, ((2 * k + 1 : Nat) : Int), 90)] := by simp [colStrips, List.range_succ]
theorem rowStrips_len (k : Nat) : (rowStrips k).length = k := by simp [rowStrips]
theorem colStrips_len (k : Nat) : (colStrips k).length = k := by simp [colStrips]
theorem _root_.Go.Par.EL.make {P : Program} {α : Type} (E : EL P α) (c n : Nat) (hn : n ≤ c) (hc : c ≤ 1000000000) :
    ∃ cs : Array Value, cs = madeCells E.zero.cells (c * E.size) ∧ cs.size = c * E.size ∧ ∀ W, (Instr.makeSlice E.st (.int .i64 (n : Int)) (.int .i64 (c : Int))).run P W = .ok (.slice (some ⟨W.heap.size, 0, none⟩) n c) (W.alloc (.cells cs E.t)) := by
  obtain ⟨i0, hi, hz0, hz1, hz2⟩ := info_parts E.info
  have hb : (i0.bytes : Int) * (c : Int) ≤ 281474976710656 := by
    have := Nat.mul_le_mul E.small hc
    rw [← hz2] at this
    have e : ((i0.bytes * c : Nat) : Int) = (i0.bytes : Int) * (c : Int) := Int.natCast_mul _ _
    omega
  refine ⟨_, rfl, by rw [size_madeCells], fun W => ?_⟩
  have := run_make (P := P) W E.st E.t i0 E.zero E.und hi hz0 .i64 .i64 n c (by omega) (by omega) hb (by omega)
  rw [Int.toNat_natCast, Int.toNat_natCast, hz1] at this
  exact this
theorem rect_zeros {cs : Array Value} {N : Nat} (h : cs = madeCells rectE.zero.cells (N * 4)) : ∀ (j : Nat) (v : Value), (rectE.cells (List.replicate N (0, 0, 0, 0)))[j]? = some v → cs[j]? = some v := fun j v hv => by
  obtain ⟨i, o, x, hx, hv2, rfl, ho⟩ := rectE.cells_at' hv
  have ho4 : o < 4 := ho
  have hi := (List.getElem?_eq_some_iff.1 hx).1
  rw [List.length_replicate] at hi
  rw [List.getElem?_replicate, if_pos hi] at hx
  injection hx with hx
  subst hx
  have e4 : rectE.size = 4 := rfl
  have hz : rectE.zero.cells = #[.int .i64 0, .int .i64 0, .int .i64 0, .int .i64 0] := rfl
  have hve : v = .int .i64 0 := by
    rcases (by omega : o = 0 ∨ o = 1 ∨ o = 2 ∨ o = 3) with rfl | rfl | rfl | rfl <;> simpa [rectE] using hv2.symm
  subst hve
  rw [h, hz, e4]
  unfold madeCells
  rw [Array.getElem?_map, Array.getElem?_range, if_pos (by omega)]
  show some _ = some _
  congr 1
  have : (i * 4 + o) % 4 < 4 := Nat.mod_lt _ (by omega)
  show (#[Value.int .i64 0, .int .i64 0, .int .i64 0, .int .i64 0] : Array Value)[(i * 4 + o) % 4]! = _
  generalize (i * 4 + o) % 4 = r at *
  rcases (by omega : r = 0 ∨ r = 1 ∨ r = 2 ∨ r = 3) with rfl | rfl | rfl | rfl <;> rfl
set_option maxRecDepth 100000 in
set_option maxHeartbeats 6400000 in
theorem regionRectLimit_any (m n : Nat) (w : World) (hm : m ≤ 255) (hn : n ≤ 255) :
    Calls Try.prog 4 #[.int .u8 m, .int .u8 n] w fun e w' => e = .returned (.bool true) ∧ Ext w w' := by
  have a1 : ((m : Int).tmod 41) = ((m % 41 : Nat) : Int) := rfl
  have a2 : ((n : Int).tmod 41) = ((n % 41 : Nat) : Int) := rfl
  have a3 : ((m : Int).tmod 8) = ((m % 8 : Nat) : Int) := rfl
  have b1 : ((m : Int) % 41) = ((m % 41 : Nat) : Int) := rfl
  have b2 : ((n : Int) % 41) = ((n % 41 : Nat) : Int) := rfl
  have b3 : ((m : Int) % 8) = ((m % 8 : Nat) : Int) := rfl
  have hM : m % 41 ≤ 40 := by omega
  have hN : n % 41 ≤ 40 := by omega
  have hK : m % 8 ≤ 7 := by omega
  generalize m % 41 = M at *
  generalize n % 41 = N at *
  generalize m % 8 = K at *
  have c1 : IntKind.i64.wrap (M : Int) = (M : Int) := IntWalk.i64_in _ (by omega)
  have c2 : IntKind.i64.wrap (N : Int) = (N : Int) := IntWalk.i64_in _ (by omega)
  have c3 : IntKind.i64.wrap (K : Int) = (K : Int) := IntWalk.i64_in _ (by omega)
  have hE0 := (Ext.alloc w (.cells #[] 29)).trans (Ext.alloc _ (.cells #[] 29))
  have ha0 : rectE.Own ((w.alloc (.cells #[] 29)).alloc (.cells #[] 29)) w.heap.size (.slice (some ⟨w.heap.size, 0, none⟩) 0 0) [] := (EL.Own.made (E := rectE) w).ext (Ext.alloc _ _)
  have hb0 : rectE.Own ((w.alloc (.cells #[] 29)).alloc (.cells #[] 29)) w.heap.size (.slice (some ⟨w.heap.size + 1, 0, none⟩) 0 0) [] := by
    have := EL.Own.made (E := rectE) (w.alloc (.cells #[] 29))
    have e : (w.alloc (.cells #[] 29)).heap.size = w.heap.size + 1 := by simp
    rw [e] at this
    exact this.lower (by omega)
  go_enter Try.func4, Try.ntmps4
  go_wp2_with fail
  obtain ⟨B, hB⟩ : ∃ B, w.heap.size = B := ⟨_, rfl⟩
  have HB := Lib.hid hB
  rw [hB] at ha0 hb0 ⊢
  clear hB
  go_loopw [5, 7] (fun s i wr => ∃ k : Nat, k ≤ M ∧ i = .int .i64 k ∧ Ext w wr ∧ rectE.Own wr B s (rowStrips k) ∧ rectE.Own wr B (.slice (some ⟨B + 1, 0, none⟩) 0 0) [] ∧ s.ownBlock ≠ some (B + 1)) (fun _ i _ => M - (intOf i).toNat)
  case atStart => exact ⟨0, Nat.zero_le _, rfl, hE0, ha0, hb0, by simp [Value.ownBlock]⟩
  case round =>
    clear ha0 hb0 hE0
    obtain ⟨k, hk, rfl, hE, hown, hob, hne⟩ := hrel
    by_cases hlt : k < M
    · have dk : ((k : Int) < (M : Int)) = True := eq_true (by omega)
      obtain ⟨K2, hK2⟩ : ∃ K2, 2 * k = K2 := ⟨_, rfl⟩
      obtain ⟨K3, hK3⟩ : ∃ K3, 2 * k + 1 = K3 := ⟨_, rfl⟩
      have q1 : IntKind.i64.wrap (2 * (k : Int)) = (K2 : Int) := (IntWalk.i64_in _ (by omega)).trans (by omega)
      have q2 : IntKind.i64.wrap ((K2 : Int) + 1) = (K3 : Int) := (IntWalk.i64_in _ (by omega)).trans (by omega)
      have HT := Lib.hid (show rowStrips (k + 1) = rowStrips k ++ [(0, (K2 : Int), 90, (K3 : Int))] from by rw [rowStrips_succ, hK3, hK2])
      have HLL := Lib.hid (show (rowStrips k).length + ([(0, (K2 : Int), 90, (K3 : Int))] : List R4).length ≤ 1000000000 from by rw [rowStrips_len]; simp; omega)
      have HSZ := Lib.hid (show B ≤ w.heap.size from by rw [HB.out]; exact Nat.le_refl _)
      clear hK2 hK3
      have hEa := hE.trans (Ext.alloc wr (.cells #[.int .i64 0, .int .i64 K2, .int .i64 90, .int .i64 K3] 29))
      have hownA := hown.ext (Ext.alloc wr (.cells #[.int .i64 0, .int .i64 K2, .int .i64 90, .int .i64 K3] 29))
      have hobA := hob.ext (Ext.alloc wr (.cells #[.int .i64 0, .int .i64 K2, .int .i64 90, .int .i64 K3] 29))
      have hrow := EL.rowOne (E := rectE) (x := (0, (K2 : Int), 90, (K3 : Int))) (Box.new wr 29 #[.int .i64 0, .int .i64 K2, .int .i64 90, .int .i64 K3]) rfl
      have hsz : B ≤ (wr.alloc (.cells #[.int .i64 0, .int .i64 K2, .int .i64 90, .int .i64 K3] 29)).heap.size := Nat.le_trans HSZ.out hEa.size
      go_wp2_with (at_builtin; refine EL.wpApp rectE rfl _ _ rfl B _ _ (rowStrips k) [(0, (K2 : Int), 90, (K3 : Int))] rfl rfl hownA hrow HLL.out hsz ?_; intro v1 W1 own1 gr1 loc1)
      have hE2 := growExt hEa hownA (by rw [HB.out]; exact Nat.le_refl _) gr1
      obtain ⟨hob2, hne2⟩ := own_two hownA hobA hne gr1 loc1
      clear q1 q2
      go_roundw
      case rel => exact ⟨k + 1, by omega, by go_num, hE2, by rw [HT.out]; exact own1, hob2, hne2⟩
      case measure => simp [intOf]; omega
    · have dk : ((k : Int) < (M : Int)) = False := eq_false (by omega)
      obtain rfl : k = M := by omega
      have hl := hown.len
      rw [rowStrips_len] at hl
      obtain ⟨A1, ca, rfl, _, _⟩ := hl
      have hne' := hne.symm
      go_wp2_with fail
      go_loopw [6, 8] (fun s i wr => ∃ j : Nat, j ≤ N ∧ i = .int .i64 j ∧ Ext w wr ∧ rectE.Own wr B s (colStrips j) ∧ rectE.Own wr B (.slice A1 k ca) (rowStrips k) ∧ s.ownBlock ≠ (Value.slice A1 k ca).ownBlock) (fun _ i _ => N - (intOf i).toNat)
      case atStart => exact ⟨0, Nat.zero_le _, rfl, hE, hob, hown, hne'⟩
      case round =>
        clear hob hown hE hne hne'
        obtain ⟨j, hj, rfl, hE, hown, hob, hne⟩ := hrel
        by_cases hlt2 : j < N
        · have dj : ((j : Int) < (N : Int)) = True := eq_true (by omega)
          obtain ⟨K2, hK2⟩ : ∃ K2, 2 * j = K2 := ⟨_, rfl⟩
          obtain ⟨K3, hK3⟩ : ∃ K3, 2 * j + 1 = K3 := ⟨_, rfl⟩
          have q1 : IntKind.i64.wrap (2 * (j : Int)) = (K2 : Int) := (IntWalk.i64_in _ (by omega)).trans (by omega)
          have q2 : IntKind.i64.wrap ((K2 : Int) + 1) = (K3 : Int) := (IntWalk.i64_in _ (by omega)).trans (by omega)
          have HT := Lib.hid (show colStrips (j + 1) = colStrips j ++ [((K2 : Int), 0, (K3 : Int), 90)] from by rw [colStrips_succ, hK3, hK2])
          have HLL := Lib.hid (show (colStrips j).length + ([((K2 : Int), 0, (K3 : Int), 90)] : List R4).length ≤ 1000000000 from by rw [colStrips_len]; simp; omega)
          have HSZ := Lib.hid (show B ≤ w.heap.size from by rw [HB.out]; exact Nat.le_refl _)
          clear hK2 hK3
          have hEa := hE.trans (Ext.alloc wr (.cells #[.int .i64 K2, .int .i64 0, .int .i64 K3, .int .i64 90] 29))
          have hownA := hown.ext (Ext.alloc wr (.cells #[.int .i64 K2, .int .i64 0, .int .i64 K3, .int .i64 90] 29))
          have hobA := hob.ext (Ext.alloc wr (.cells #[.int .i64 K2, .int .i64 0, .int .i64 K3, .int .i64 90] 29))
          have hrow := EL.rowOne (E := rectE) (x := ((K2 : Int), 0, (K3 : Int), 90)) (Box.new wr 29 #[.int .i64 K2, .int .i64 0, .int .i64 K3, .int .i64 90]) rfl
          have hsz : B ≤ (wr.alloc (.cells #[.int .i64 K2, .int .i64 0, .int .i64 K3, .int .i64 90] 29)).heap.size := Nat.le_trans HSZ.out hEa.size
          go_wp2_with (at_builtin; refine EL.wpApp rectE rfl _ _ rfl B _ _ (colStrips j) [((K2 : Int), 0, (K3 : Int), 90)] rfl rfl hownA hrow HLL.out hsz ?_; intro v1 W1 own1 gr1 loc1)
          have hE2 := growExt hEa hownA (by rw [HB.out]; exact Nat.le_refl _) gr1
          obtain ⟨hob2, hne2⟩ := own_two hownA hobA hne gr1 loc1
          clear q1 q2
          go_roundw
          case rel => exact ⟨j + 1, by omega, by go_num, hE2, by rw [HT.out]; exact own1, hob2, hne2⟩
          case measure => simp [intOf]; omega
        · have dj : ((j : Int) < (N : Int)) = False := eq_false (by omega)
          obtain rfl : j = N := by omega
          have hl := hown.len
          rw [colStrips_len] at hl
          obtain ⟨A2, cb, rfl, _, _⟩ := hl
          obtain ⟨_, _, e1, _, hat1⟩ := hob.at (n := k) (rowStrips_len k) (by omega)
          obtain ⟨_, _, e2, _, hat2⟩ := hown.at (n := j) (colStrips_len j) (by omega)
          injection e1 with e1 _ e1'
          injection e2 with e2 _ e2'
          subst e1 e1' e2 e2'
          have HINT := Lib.hid (fun (W : World) (kk : Ext wr W) => inter_any (rowStrips k) (colStrips j) A1 A2 k ca j cb W (rowStrips_len k) (colStrips_len j) (by omega) (by omega) (hat1.ext kk) (hat2.ext kk))
          have HE := Lib.hid hE
          have HKJ := Lib.hid (show k ≤ 45 ∧ j ≤ 45 from by omega)
          clear hown hob hne hE hat1
          go_wp2_with fail
          refine (HINT.out _ (Ext.refl _)).mono ?_
          rintro e w1 ⟨v1, r1, L1, rfl, hE1, hr1, hres1⟩
          have hgl := grid_region HKJ.out.1 HKJ.out.2 (fun x y => rfl) hr1
          obtain ⟨T, hT⟩ : ∃ T, 1020 + K = T := ⟨_, rfl⟩
          have t1 : IntKind.i64.wrap (1020 + (K : Int)) = (T : Int) := (IntWalk.i64_in _ (by omega)).trans (by omega)
          obtain ⟨cs, hcs0, hcs, hmk⟩ := EL.make rectE T T (Nat.le_refl _) (by omega)
          have hz := rect_zeros hcs0
          have hT1 : T ≤ 1027 := by omega
          obtain ⟨G, hG⟩ : ∃ G, k * j = G := ⟨_, rfl⟩
          have g1 : IntKind.i64.wrap ((k : Int) * (j : Int)) = (G : Int) := by
            have e : ((k * j : Nat) : Int) = (k : Int) * (j : Int) := Int.natCast_mul _ _
            have : k * j ≤ 45 * 45 := Nat.mul_le_mul HKJ.out.1 HKJ.out.2
            rw [← e, hG]
            exact IntWalk.i64_in _ (by omega)
          rw [hG] at hgl
          have hmk' : ∀ W, (Instr.makeSlice 22 (.int .i64 (T : Int)) (.int .i64 (T : Int))).run Try.prog W = .ok (.slice (some ⟨W.heap.size, 0, none⟩) T T) (W.alloc (.cells cs 29)) := hmk
          have HX := Lib.hid (hE1.trans (Ext.alloc w1 (.cells cs 29)))
          have hatL : rectE.At (w1.alloc (.cells cs 29)) (some ⟨w1.heap.size, 0, none⟩) (List.replicate T (0, 0, 0, 0)) := EL.At.box (Box.new w1 29 cs) hz
          have hat2' := hat2.ext HX.out
          have HEX := Lib.hid example_any
          have HGL := Lib.hid hgl
          have HTL := Lib.hid (show (List.replicate T ((0, 0, 0, 0) : R4)).length = T from by simp)
          have HNS := Lib.hid (fun (hs : T ≤ 1024) (W : World) (kk : Ext (w1.alloc (.cells cs 29)) W) => show Calls Try.prog 15 #[.slice (some ⟨w1.heap.size, 0, none⟩) T T] W (fun e w' => ∃ v, e = .returned (.tuple #[v, .int .i64 0]) ∧ Ext W w') from
            (New_any (List.replicate T (0, 0, 0, 0)) _ T T W HTL.out hs (hatL.ext kk)).mono fun e w' ⟨v, er, L, f1, f2, f3, f4⟩ => by
              have h0 := none_region (inL_zeros T) f3
              subst h0
              obtain ⟨_, rfl, _⟩ | ⟨q, _, _⟩ := f4
              · exact ⟨v, f1, f2⟩
              · exact absurd q (by simp))
          have HSS := Lib.hid (fun (hs : T ≤ 1024) (W : World) (kk : Ext (w1.alloc (.cells cs 29)) W) => show Calls Try.prog 19 #[.slice A2 j cb, .slice (some ⟨w1.heap.size, 0, none⟩) T T] W (fun e w' => ∃ v, e = .returned (.tuple #[v, .int .i64 0]) ∧ Ext W w') from
            (subt_any (colStrips j) (List.replicate T (0, 0, 0, 0)) A2 _ j cb T T W (colStrips_len j) HTL.out (by omega) hs (hat2'.ext kk) (hatL.ext kk)).mono fun e w' ⟨v, er, L, f1, f2, f3, f4⟩ => by
              have h0 := col_region HKJ.out.2 (fun x y => by rw [inL_zeros]; simp) f3
              obtain ⟨_, rfl, _⟩ | ⟨q, _, _⟩ := f4
              · exact ⟨v, f1, f2⟩
              · omega)
          clear hz hcs0 hcs hmk hT hG hgl hat2 hat2' hatL hr1
          by_cases hbig : 1024 < T
          · have tb : ((1024 : Int) < (T : Int)) = True := eq_true (by omega)
            have HN' := Lib.hid (fun W => New_long (some ⟨w1.heap.size, 0, none⟩) T T W hbig)
            have HS' := Lib.hid (fun W => subt_long A2 (some ⟨w1.heap.size, 0, none⟩) j cb T T W (.inr hbig))
            clear HNS HSS
            obtain ⟨k1, rfl, own1⟩ | ⟨k1, rfl, rfl⟩ := hres1
            · obtain ⟨A3, cc, rfl, _, _⟩ := own1.at HGL.out (by have := HGL.out; omega)
              have gb : ((1024 : Int) < (G : Int)) = False := eq_false (by have := HGL.out; omega)
              clear own1 k1
              go_wp2_with fail
              refine (HN'.out _).mono ?_
              rintro e w3 ⟨rfl, k3⟩
              go_wp2_with fail
              refine (HS'.out _).mono ?_
              rintro e w4 ⟨rfl, k4⟩
              go_wp2_with fail
              refine (HEX.out _).mono ?_
              rintro e w5 ⟨rfl, k5⟩
              go_wp2
              go_ret
              exact ⟨ret_eq (by simp), HE.out.trans (((HX.out.trans k3).trans k4).trans k5)⟩
            · have gb : ((1024 : Int) < (G : Int)) = True := eq_true (by have := HGL.out; omega)
              clear k1
              go_wp2_with fail
              refine (HN'.out _).mono ?_
              rintro e w3 ⟨rfl, k3⟩
              go_wp2_with fail
              refine (HS'.out _).mono ?_
              rintro e w4 ⟨rfl, k4⟩
              go_wp2_with fail
              refine (HEX.out _).mono ?_
              rintro e w5 ⟨rfl, k5⟩
              go_wp2
              go_ret
              exact ⟨ret_eq (by simp), HE.out.trans (((HX.out.trans k3).trans k4).trans k5)⟩
          · have tb : ((1024 : Int) < (T : Int)) = False := eq_false (by omega)
            have HN' := Lib.hid (HNS.out (by omega))
            have HS' := Lib.hid (HSS.out (by omega))
            clear HNS HSS
            obtain ⟨k1, rfl, own1⟩ | ⟨k1, rfl, rfl⟩ := hres1
            · obtain ⟨A3, cc, rfl, _, _⟩ := own1.at HGL.out (by have := HGL.out; omega)
              have gb : ((1024 : Int) < (G : Int)) = False := eq_false (by have := HGL.out; omega)
              clear own1 k1
              go_wp2_with fail
              refine (HN'.out _ (Ext.refl _)).mono ?_
              rintro e w3 ⟨v3, rfl, k3⟩
              go_wp2_with fail
              refine (HS'.out _ k3).mono ?_
              rintro e w4 ⟨v4, rfl, k4⟩
              go_wp2_with fail
              refine (HEX.out _).mono ?_
              rintro e w5 ⟨rfl, k5⟩
              go_wp2
              go_ret
              exact ⟨ret_eq (by simp), HE.out.trans (((HX.out.trans k3).trans k4).trans k5)⟩
            · have gb : ((1024 : Int) < (G : Int)) = True := eq_true (by have := HGL.out; omega)
              clear k1
              go_wp2_with fail
              refine (HN'.out _ (Ext.refl _)).mono ?_
              rintro e w3 ⟨v3, rfl, k3⟩
              go_wp2_with fail
              refine (HS'.out _ k3).mono ?_
              rintro e w4 ⟨v4, rfl, k4⟩
              go_wp2_with fail
              refine (HEX.out _).mono ?_
              rintro e w5 ⟨rfl, k5⟩
              go_wp2
              go_ret
              exact ⟨ret_eq (by simp), HE.out.trans (((HX.out.trans k3).trans k4).trans k5)⟩
end Go.Proofs.Ytkjpcjmbhpfelaa
