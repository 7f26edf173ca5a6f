/- Outline of the reference: boundary. (printed by gen_ref10b.py) -/
import Derived.Test.YtkjpcjmbhpfelaaGreatZH
set_option linter.unusedVariables false
set_option linter.unusedSimpArgs false
namespace Go.Proofs.YtkjpcjmbhpfelaaGreat
open Go.RowKit Go.Par Go.Reg Go.Maps

def rowsG (S : Pix) (xs ys : List Int) (n k : Nat) : List GE := (List.range k).flatMap fun k => rowG S xs ys n k
theorem flat_succ {β : Type} (f : Nat → List β) (i : Nat) : (List.range (i + 1)).flatMap f = (List.range i).flatMap f ++ f i := by
  rw [List.range_succ, List.flatMap_append]; simp
theorem cellG_in {S : Pix} {xs ys : List Int} {i k : Nat} (h : inG S xs ys i k = true) : cellG S xs ys i k = ((oneG S xs ys (i, k, 0) ++ oneG S xs ys (i, k, 1)) ++ oneG S xs ys (i, k, 2)) ++ oneG S xs ys (i, k, 3) := by
  unfold cellG; rw [if_pos h]
theorem cellG_out {S : Pix} {xs ys : List Int} {i k : Nat} (h : inG S xs ys i k = false) : cellG S xs ys i k = [] := by
  unfold cellG; rw [if_neg (by simp [h])]
theorem one_put {S : Pix} {xs ys : List Int} {g : GE} (h : inG S xs ys (nbG g).1 (nbG g).2 = false) : oneG S xs ys g = [g] := by
  unfold oneG; rw [if_neg (by simp [h])]
theorem one_skip {S : Pix} {xs ys : List Int} {g : GE} (h : inG S xs ys (nbG g).1 (nbG g).2 = true) : oneG S xs ys g = [] := by
  unfold oneG; rw [if_pos h]
theorem flat_len {β : Type} (f : Nat → List β) (m : Nat) (h : ∀ i, (f i).length ≤ m) : ∀ k, ((List.range k).flatMap f).length ≤ m * k := by
  intro k
  induction k with
  | zero => simp
  | succ k ih =>
    rw [flat_succ, List.length_append]
    have := h k
    rw [Nat.mul_succ]; omega
theorem one_len (S : Pix) (xs ys : List Int) (g : GE) : (oneG S xs ys g).length ≤ 1 := by unfold oneG; split <;> simp
theorem cell_len (S : Pix) (xs ys : List Int) (i k : Nat) : (cellG S xs ys i k).length ≤ 4 := by
  have h0 := one_len S xs ys (i, k, 0)
  have h1 := one_len S xs ys (i, k, 1)
  have h2 := one_len S xs ys (i, k, 2)
  have h3 := one_len S xs ys (i, k, 3)
  unfold cellG
  split
  · simp only [List.length_append]; omega
  · simp
theorem row_len (S : Pix) (xs ys : List Int) (n k : Nat) (hn : n ≤ 8192) : (rowG S xs ys n k).length ≤ 32768 := by
  have := flat_len (fun i => cellG S xs ys i k) 4 (fun i => cell_len S xs ys i k) n
  unfold rowG; omega
theorem acc_len (S : Pix) (xs ys : List Int) (n k i : Nat) (hn : n ≤ 8192) (hk : k ≤ 8192) (hi : i ≤ 8192) : (rowsG S xs ys n k ++ (List.range i).flatMap (fun i => cellG S xs ys i k)).length ≤ 268500000 := by
  have h1 := flat_len (fun k => rowG S xs ys n k) 32768 (fun k => row_len S xs ys n k hn) k
  have h2 := flat_len (fun i => cellG S xs ys i k) 4 (fun i => cell_len S xs ys i k) i
  rw [List.length_append]
  unfold rowsG
  omega
theorem _root_.Go.Par.Box.keptBy {P : Program} {β : Type} {F : EL P β} {w w' : World} {b B : Nat} {t : TypeId} {cs : Array Value} {v : Value} {l : List β} (h : Box w b t cs) (hown : F.Own w B v l) (ht : t ≠ F.t) (hg : w.grownBy w' v.ownBlock) : Box w' b t cs :=
  boxGrown h hg fun e => by
    obtain ⟨_, cur, hc⟩ := ownBlock_cells hown e.symm
    have := h.symm.trans hc
    simp only [Option.some.injEq, Obj.cells.injEq] at this
    exact ht this.2.1
set_option maxRecDepth 100000 in
set_option maxHeartbeats 6400000 in
theorem boundary_any (l : List R4) (A A1 A2 : Option Addr) (n c n1 c1 n2 c2 : Nat) (xs ys : List Int) (w : World) (hn : l.length = n) (hnb : n ≤ 1000000) (hA : rectE.At w A l) (hn1 : xs.length = n1) (hn2 : ys.length = n2) (hb1 : n1 ≤ 8193) (hb2 : n2 ≤ 8193)
    (h1 : intE.At w A1 xs) (h2 : intE.At w A2 ys) :
    Calls Tryz.prog 22 #[.slice A n c, .slice A1 n1 c1, .slice A2 n2 c2] w fun e w' => ∃ v, e = .returned v ∧ Ext w w' ∧ gedE.Own w' w.heap.size v (boundG (inL l) xs ys) := by
  have HIN := Lib.hid (fun (i k : Int) (W : World) (kW : Ext w W) hi hk => in_any l A A1 A2 n c n1 c1 n2 c2 xs ys i k W hn hnb (hA.ext kW) hn1 hn2 (by omega) (by omega) (h1.ext kW) (h2.ext kW) hi hk)
  have HBD := Lib.hid (fun (i k : Nat) (hi : i ≤ n1 - 1) (hk : k ≤ n2 - 1) => acc_len (inL l) xs ys (n1 - 1) k i (by omega) (by omega) (by omega))
  have HBG := Lib.hid (show rowsG (inL l) xs ys (n1 - 1) (n2 - 1) = boundG (inL l) xs ys from by unfold boundG rowsG; rw [hn1, hn2])
  clear hn hA h1 h2 hn1 hn2
  go_enter Tryz.func22, Tryz.ntmps22
  go_wp2_with fail
  go_loopw [7, 8] (fun s kk wr => ∃ k : Nat, k ≤ n2 - 1 ∧ kk = .int .i64 k ∧ Ext w wr ∧ gedE.Own wr w.heap.size s (rowsG (inL l) xs ys (n1 - 1) k)) (fun _ kk _ => n2 - (intOf kk).toNat)
  case atStart => exact ⟨0, Nat.zero_le _, rfl, Ext.alloc _ _, EL.Own.made (E := gedE) w⟩
  case round =>
    obtain ⟨k, hk, rfl, hE, hown⟩ := hrel
    by_cases hlt : k + 1 < n2
    · have dk : ((k : Int) + 1 < (n2 : Int)) = True := eq_true (by omega)
      go_wp2_with fail
      go_loopw [7, 9] (fun s ii wz => ∃ i : Nat, i ≤ n1 - 1 ∧ ii = .int .i64 i ∧ Ext w wz ∧ gedE.Own wz w.heap.size s (rowsG (inL l) xs ys (n1 - 1) k ++ (List.range i).flatMap (fun i => cellG (inL l) xs ys i k))) (fun _ ii _ => n1 - (intOf ii).toNat)
      case atStart => exact ⟨0, Nat.zero_le _, rfl, hE, by rw [List.range_zero, List.flatMap_nil, List.append_nil]; exact hown⟩
      case round =>
        clear hE hown
        obtain ⟨i, hi, rfl, hE, hown⟩ := hrel
        by_cases hlt1 : i + 1 < n1
        · have di : ((i : Int) + 1 < (n1 : Int)) = True := eq_true (by omega)
          go_wp2_with fail
          refine (HIN.out (i : Int) (k : Int) _ hE ⟨by omega, by omega⟩ ⟨by omega, by omega⟩).mono ?_
          rintro e w0 ⟨rfl, hE0⟩
          replace hE := hE.trans hE0
          replace hown := hown.ext hE0
          clear hE0
          cases hc : inG (inL l) xs ys (i : Int) (k : Int)
          · have HNX := Lib.hid (show rowsG (inL l) xs ys (n1 - 1) k ++ (List.range (i + 1)).flatMap (fun i => cellG (inL l) xs ys i k) = rowsG (inL l) xs ys (n1 - 1) k ++ (List.range i).flatMap (fun i => cellG (inL l) xs ys i k) from by rw [flat_succ, cellG_out hc, List.append_nil])
            clear hc
            go_wp2
            go_roundw
            case rel => exact ⟨i + 1, by omega, by go_num, hE, by rw [HNX.out]; exact hown⟩
            case measure => simp [intOf]; omega
          · have HIC := Lib.hid hc
            clear hc
            go_wp2_with fail
            replace hE := hE.trans (Ext.alloc w0 (.cells #[.int .i64 (i : Int), .int .i64 (k : Int)] 59))
            replace hown := hown.ext (Ext.alloc w0 (.cells #[.int .i64 (i : Int), .int .i64 (k : Int)] 59))
            have bx := Box.new w0 59 #[.int .i64 (i : Int), .int .i64 (k : Int)]
            refine (HIN.out (i : Int) ((k : Int) - 1) _ hE ⟨by omega, by omega⟩ ⟨by omega, by omega⟩).mono ?_
            rintro e w1 ⟨rfl, hE1⟩
            replace hE := hE.trans hE1
            replace hown := hown.ext hE1
            replace bx := bx.ext hE1
            clear hE1
            cases hb : inG (inL l) xs ys (i : Int) ((k : Int) - 1)
            · -- 0 0
              have HN0 := Lib.hid (one_put (S := inL l) (xs := xs) (ys := ys) (g := ((i, k, 0) : GE)) hb)
              have cc := bx.cell
              have hEa := hE.trans (Ext.alloc w1 (.cells #[.int .i64 (i : Int), .int .i64 (k : Int), .int .i64 ((i : Int) + 1), .int .i64 (k : Int), .int .i64 (i : Int), .int .i64 (k : Int)] 61))
              have hownA := hown.ext (Ext.alloc w1 (.cells #[.int .i64 (i : Int), .int .i64 (k : Int), .int .i64 ((i : Int) + 1), .int .i64 (k : Int), .int .i64 (i : Int), .int .i64 (k : Int)] 61))
              have bxA := bx.alloc (.cells #[.int .i64 (i : Int), .int .i64 (k : Int), .int .i64 ((i : Int) + 1), .int .i64 (k : Int), .int .i64 (i : Int), .int .i64 (k : Int)] 61)
              have hrow := EL.rowOne (E := gedE) (x := ((i, k, 0) : GE)) (Box.new w1 61 #[.int .i64 (i : Int), .int .i64 (k : Int), .int .i64 ((i : Int) + 1), .int .i64 (k : Int), .int .i64 (i : Int), .int .i64 (k : Int)]) rfl
              have hsz := hEa.size
              have HLB := Lib.hid (HBD.out i k hi hk)
              have hll : (rowsG (inL l) xs ys (n1 - 1) k ++ (List.range i).flatMap (fun i => cellG (inL l) xs ys i k)).length + ([((i, k, 0) : GE)] : List GE).length ≤ 1000000000 := by
                have := HLB.out
                simp only [List.length_append, List.length_cons, List.length_nil] at this ⊢; omega
              clear hb
              go_wp2_with (at_builtin; refine EL.wpApp gedE rfl _ _ rfl w.heap.size _ _ _ [((i, k, 0) : GE)] rfl rfl hownA hrow hll hsz ?_; intro v0 W0 own1 gr1 _; have hE2 := growExt hEa hownA (Nat.le_refl _) gr1; have bx2 := bxA.keptBy hownA (by decide) gr1)
              replace hE := hE2
              replace hown := own1
              replace bx := bx2
              clear hEa hownA bxA hrow hsz hll hE2 own1 gr1 bx2 cc
              refine (HIN.out ((i : Int) + 1) (k : Int) _ hE ⟨by omega, by omega⟩ ⟨by omega, by omega⟩).mono ?_
              rintro e w1 ⟨rfl, hE1⟩
              replace hE := hE.trans hE1
              replace hown := hown.ext hE1
              replace bx := bx.ext hE1
              clear hE1
              cases hb : inG (inL l) xs ys ((i : Int) + 1) (k : Int)
              · -- 1 0
                have HN1 := Lib.hid (one_put (S := inL l) (xs := xs) (ys := ys) (g := ((i, k, 1) : GE)) hb)
                have cc := bx.cell
                have hEa := hE.trans (Ext.alloc w1 (.cells #[.int .i64 ((i : Int) + 1), .int .i64 (k : Int), .int .i64 ((i : Int) + 1), .int .i64 ((k : Int) + 1), .int .i64 (i : Int), .int .i64 (k : Int)] 61))
                have hownA := hown.ext (Ext.alloc w1 (.cells #[.int .i64 ((i : Int) + 1), .int .i64 (k : Int), .int .i64 ((i : Int) + 1), .int .i64 ((k : Int) + 1), .int .i64 (i : Int), .int .i64 (k : Int)] 61))
                have bxA := bx.alloc (.cells #[.int .i64 ((i : Int) + 1), .int .i64 (k : Int), .int .i64 ((i : Int) + 1), .int .i64 ((k : Int) + 1), .int .i64 (i : Int), .int .i64 (k : Int)] 61)
                have hrow := EL.rowOne (E := gedE) (x := ((i, k, 1) : GE)) (Box.new w1 61 #[.int .i64 ((i : Int) + 1), .int .i64 (k : Int), .int .i64 ((i : Int) + 1), .int .i64 ((k : Int) + 1), .int .i64 (i : Int), .int .i64 (k : Int)]) rfl
                have hsz := hEa.size
                have HLB := Lib.hid (HBD.out i k hi hk)
                have hll : ((rowsG (inL l) xs ys (n1 - 1) k ++ (List.range i).flatMap (fun i => cellG (inL l) xs ys i k)) ++ [((i, k, 0) : GE)]).length + ([((i, k, 1) : GE)] : List GE).length ≤ 1000000000 := by
                  have := HLB.out
                  simp only [List.length_append, List.length_cons, List.length_nil] at this ⊢; omega
                clear hb
                go_wp2_with (at_builtin; refine EL.wpApp gedE rfl _ _ rfl w.heap.size _ _ _ [((i, k, 1) : GE)] rfl rfl hownA hrow hll hsz ?_; intro v1 W1 own1 gr1 _; have hE2 := growExt hEa hownA (Nat.le_refl _) gr1; have bx2 := bxA.keptBy hownA (by decide) gr1)
                replace hE := hE2
                replace hown := own1
                replace bx := bx2
                clear hEa hownA bxA hrow hsz hll hE2 own1 gr1 bx2 cc
                refine (HIN.out (i : Int) ((k : Int) + 1) _ hE ⟨by omega, by omega⟩ ⟨by omega, by omega⟩).mono ?_
                rintro e w1 ⟨rfl, hE1⟩
                replace hE := hE.trans hE1
                replace hown := hown.ext hE1
                replace bx := bx.ext hE1
                clear hE1
                cases hb : inG (inL l) xs ys (i : Int) ((k : Int) + 1)
                · -- 2 0
                  have HN2 := Lib.hid (one_put (S := inL l) (xs := xs) (ys := ys) (g := ((i, k, 2) : GE)) hb)
                  have cc := bx.cell
                  have hEa := hE.trans (Ext.alloc w1 (.cells #[.int .i64 ((i : Int) + 1), .int .i64 ((k : Int) + 1), .int .i64 (i : Int), .int .i64 ((k : Int) + 1), .int .i64 (i : Int), .int .i64 (k : Int)] 61))
                  have hownA := hown.ext (Ext.alloc w1 (.cells #[.int .i64 ((i : Int) + 1), .int .i64 ((k : Int) + 1), .int .i64 (i : Int), .int .i64 ((k : Int) + 1), .int .i64 (i : Int), .int .i64 (k : Int)] 61))
                  have bxA := bx.alloc (.cells #[.int .i64 ((i : Int) + 1), .int .i64 ((k : Int) + 1), .int .i64 (i : Int), .int .i64 ((k : Int) + 1), .int .i64 (i : Int), .int .i64 (k : Int)] 61)
                  have hrow := EL.rowOne (E := gedE) (x := ((i, k, 2) : GE)) (Box.new w1 61 #[.int .i64 ((i : Int) + 1), .int .i64 ((k : Int) + 1), .int .i64 (i : Int), .int .i64 ((k : Int) + 1), .int .i64 (i : Int), .int .i64 (k : Int)]) rfl
                  have hsz := hEa.size
                  have HLB := Lib.hid (HBD.out i k hi hk)
                  have hll : (((rowsG (inL l) xs ys (n1 - 1) k ++ (List.range i).flatMap (fun i => cellG (inL l) xs ys i k)) ++ [((i, k, 0) : GE)]) ++ [((i, k, 1) : GE)]).length + ([((i, k, 2) : GE)] : List GE).length ≤ 1000000000 := by
                    have := HLB.out
                    simp only [List.length_append, List.length_cons, List.length_nil] at this ⊢; omega
                  clear hb
                  go_wp2_with (at_builtin; refine EL.wpApp gedE rfl _ _ rfl w.heap.size _ _ _ [((i, k, 2) : GE)] rfl rfl hownA hrow hll hsz ?_; intro v2 W2 own1 gr1 _; have hE2 := growExt hEa hownA (Nat.le_refl _) gr1; have bx2 := bxA.keptBy hownA (by decide) gr1)
                  replace hE := hE2
                  replace hown := own1
                  replace bx := bx2
                  clear hEa hownA bxA hrow hsz hll hE2 own1 gr1 bx2 cc
                  refine (HIN.out ((i : Int) - 1) (k : Int) _ hE ⟨by omega, by omega⟩ ⟨by omega, by omega⟩).mono ?_
                  rintro e w1 ⟨rfl, hE1⟩
                  replace hE := hE.trans hE1
                  replace hown := hown.ext hE1
                  replace bx := bx.ext hE1
                  clear hE1
                  cases hb : inG (inL l) xs ys ((i : Int) - 1) (k : Int)
                  · -- 3 0
                    have HN3 := Lib.hid (one_put (S := inL l) (xs := xs) (ys := ys) (g := ((i, k, 3) : GE)) hb)
                    have cc := bx.cell
                    have hEa := hE.trans (Ext.alloc w1 (.cells #[.int .i64 (i : Int), .int .i64 ((k : Int) + 1), .int .i64 (i : Int), .int .i64 (k : Int), .int .i64 (i : Int), .int .i64 (k : Int)] 61))
                    have hownA := hown.ext (Ext.alloc w1 (.cells #[.int .i64 (i : Int), .int .i64 ((k : Int) + 1), .int .i64 (i : Int), .int .i64 (k : Int), .int .i64 (i : Int), .int .i64 (k : Int)] 61))
                    have bxA := bx.alloc (.cells #[.int .i64 (i : Int), .int .i64 ((k : Int) + 1), .int .i64 (i : Int), .int .i64 (k : Int), .int .i64 (i : Int), .int .i64 (k : Int)] 61)
                    have hrow := EL.rowOne (E := gedE) (x := ((i, k, 3) : GE)) (Box.new w1 61 #[.int .i64 (i : Int), .int .i64 ((k : Int) + 1), .int .i64 (i : Int), .int .i64 (k : Int), .int .i64 (i : Int), .int .i64 (k : Int)]) rfl
                    have hsz := hEa.size
                    have HLB := Lib.hid (HBD.out i k hi hk)
                    have hll : ((((rowsG (inL l) xs ys (n1 - 1) k ++ (List.range i).flatMap (fun i => cellG (inL l) xs ys i k)) ++ [((i, k, 0) : GE)]) ++ [((i, k, 1) : GE)]) ++ [((i, k, 2) : GE)]).length + ([((i, k, 3) : GE)] : List GE).length ≤ 1000000000 := by
                      have := HLB.out
                      simp only [List.length_append, List.length_cons, List.length_nil] at this ⊢; omega
                    clear hb
                    go_wp2_with (at_builtin; refine EL.wpApp gedE rfl _ _ rfl w.heap.size _ _ _ [((i, k, 3) : GE)] rfl rfl hownA hrow hll hsz ?_; intro v3 W3 own1 gr1 _; have hE2 := growExt hEa hownA (Nat.le_refl _) gr1; have bx2 := bxA.keptBy hownA (by decide) gr1)
                    replace hE := hE2
                    replace hown := own1
                    clear hEa hownA bxA hrow hsz hll hE2 own1 gr1 bx2 cc
                    have HNX := Lib.hid (show rowsG (inL l) xs ys (n1 - 1) k ++ (List.range (i + 1)).flatMap (fun i => cellG (inL l) xs ys i k) = ((((rowsG (inL l) xs ys (n1 - 1) k ++ (List.range i).flatMap (fun i => cellG (inL l) xs ys i k)) ++ [((i, k, 0) : GE)]) ++ [((i, k, 1) : GE)]) ++ [((i, k, 2) : GE)]) ++ [((i, k, 3) : GE)] from by rw [flat_succ, cellG_in HIC.out, HN0.out, HN1.out, HN2.out, HN3.out]; simp)
                    go_roundw
                    case rel => exact ⟨i + 1, by omega, by go_num, hE, by rw [HNX.out]; exact hown⟩
                    case measure => simp [intOf]; omega
                  · -- 3 1
                    have HN3 := Lib.hid (one_skip (S := inL l) (xs := xs) (ys := ys) (g := ((i, k, 3) : GE)) hb)
                    clear hb
                    go_wp2_with fail
                    have HNX := Lib.hid (show rowsG (inL l) xs ys (n1 - 1) k ++ (List.range (i + 1)).flatMap (fun i => cellG (inL l) xs ys i k) = (((rowsG (inL l) xs ys (n1 - 1) k ++ (List.range i).flatMap (fun i => cellG (inL l) xs ys i k)) ++ [((i, k, 0) : GE)]) ++ [((i, k, 1) : GE)]) ++ [((i, k, 2) : GE)] from by rw [flat_succ, cellG_in HIC.out, HN0.out, HN1.out, HN2.out, HN3.out]; simp)
                    go_roundw
                    case rel => exact ⟨i + 1, by omega, by go_num, hE, by rw [HNX.out]; exact hown⟩
                    case measure => simp [intOf]; omega
                · -- 2 1
                  have HN2 := Lib.hid (one_skip (S := inL l) (xs := xs) (ys := ys) (g := ((i, k, 2) : GE)) hb)
                  clear hb
                  go_wp2_with fail
                  refine (HIN.out ((i : Int) - 1) (k : Int) _ hE ⟨by omega, by omega⟩ ⟨by omega, by omega⟩).mono ?_
                  rintro e w1 ⟨rfl, hE1⟩
                  replace hE := hE.trans hE1
                  replace hown := hown.ext hE1
                  replace bx := bx.ext hE1
                  clear hE1
                  cases hb : inG (inL l) xs ys ((i : Int) - 1) (k : Int)
                  · -- 3 0
                    have HN3 := Lib.hid (one_put (S := inL l) (xs := xs) (ys := ys) (g := ((i, k, 3) : GE)) hb)
                    have cc := bx.cell
                    have hEa := hE.trans (Ext.alloc w1 (.cells #[.int .i64 (i : Int), .int .i64 ((k : Int) + 1), .int .i64 (i : Int), .int .i64 (k : Int), .int .i64 (i : Int), .int .i64 (k : Int)] 61))
                    have hownA := hown.ext (Ext.alloc w1 (.cells #[.int .i64 (i : Int), .int .i64 ((k : Int) + 1), .int .i64 (i : Int), .int .i64 (k : Int), .int .i64 (i : Int), .int .i64 (k : Int)] 61))
                    have bxA := bx.alloc (.cells #[.int .i64 (i : Int), .int .i64 ((k : Int) + 1), .int .i64 (i : Int), .int .i64 (k : Int), .int .i64 (i : Int), .int .i64 (k : Int)] 61)
                    have hrow := EL.rowOne (E := gedE) (x := ((i, k, 3) : GE)) (Box.new w1 61 #[.int .i64 (i : Int), .int .i64 ((k : Int) + 1), .int .i64 (i : Int), .int .i64 (k : Int), .int .i64 (i : Int), .int .i64 (k : Int)]) rfl
                    have hsz := hEa.size
                    have HLB := Lib.hid (HBD.out i k hi hk)
                    have hll : (((rowsG (inL l) xs ys (n1 - 1) k ++ (List.range i).flatMap (fun i => cellG (inL l) xs ys i k)) ++ [((i, k, 0) : GE)]) ++ [((i, k, 1) : GE)]).length + ([((i, k, 3) : GE)] : List GE).length ≤ 1000000000 := by
                      have := HLB.out
                      simp only [List.length_append, List.length_cons, List.length_nil] at this ⊢; omega
                    clear hb
                    go_wp2_with (at_builtin; refine EL.wpApp gedE rfl _ _ rfl w.heap.size _ _ _ [((i, k, 3) : GE)] rfl rfl hownA hrow hll hsz ?_; intro v3 W3 own1 gr1 _; have hE2 := growExt hEa hownA (Nat.le_refl _) gr1; have bx2 := bxA.keptBy hownA (by decide) gr1)
                    replace hE := hE2
                    replace hown := own1
                    clear hEa hownA bxA hrow hsz hll hE2 own1 gr1 bx2 cc
                    have HNX := Lib.hid (show rowsG (inL l) xs ys (n1 - 1) k ++ (List.range (i + 1)).flatMap (fun i => cellG (inL l) xs ys i k) = (((rowsG (inL l) xs ys (n1 - 1) k ++ (List.range i).flatMap (fun i => cellG (inL l) xs ys i k)) ++ [((i, k, 0) : GE)]) ++ [((i, k, 1) : GE)]) ++ [((i, k, 3) : GE)] from by rw [flat_succ, cellG_in HIC.out, HN0.out, HN1.out, HN2.out, HN3.out]; simp)
                    go_roundw
                    case rel => exact ⟨i + 1, by omega, by go_num, hE, by rw [HNX.out]; exact hown⟩
                    case measure => simp [intOf]; omega
                  · -- 3 1
                    have HN3 := Lib.hid (one_skip (S := inL l) (xs := xs) (ys := ys) (g := ((i, k, 3) : GE)) hb)
                    clear hb
                    go_wp2_with fail
                    have HNX := Lib.hid (show rowsG (inL l) xs ys (n1 - 1) k ++ (List.range (i + 1)).flatMap (fun i => cellG (inL l) xs ys i k) = ((rowsG (inL l) xs ys (n1 - 1) k ++ (List.range i).flatMap (fun i => cellG (inL l) xs ys i k)) ++ [((i, k, 0) : GE)]) ++ [((i, k, 1) : GE)] from by rw [flat_succ, cellG_in HIC.out, HN0.out, HN1.out, HN2.out, HN3.out]; simp)
                    go_roundw
                    case rel => exact ⟨i + 1, by omega, by go_num, hE, by rw [HNX.out]; exact hown⟩
                    case measure => simp [intOf]; omega
              · -- 1 1
                have HN1 := Lib.hid (one_skip (S := inL l) (xs := xs) (ys := ys) (g := ((i, k, 1) : GE)) hb)
                clear hb
                go_wp2_with fail
                refine (HIN.out (i : Int) ((k : Int) + 1) _ hE ⟨by omega, by omega⟩ ⟨by omega, by omega⟩).mono ?_
                rintro e w1 ⟨rfl, hE1⟩
                replace hE := hE.trans hE1
                replace hown := hown.ext hE1
                replace bx := bx.ext hE1
                clear hE1
                cases hb : inG (inL l) xs ys (i : Int) ((k : Int) + 1)
                · -- 2 0
                  have HN2 := Lib.hid (one_put (S := inL l) (xs := xs) (ys := ys) (g := ((i, k, 2) : GE)) hb)
                  have cc := bx.cell
                  have hEa := hE.trans (Ext.alloc w1 (.cells #[.int .i64 ((i : Int) + 1), .int .i64 ((k : Int) + 1), .int .i64 (i : Int), .int .i64 ((k : Int) + 1), .int .i64 (i : Int), .int .i64 (k : Int)] 61))
                  have hownA := hown.ext (Ext.alloc w1 (.cells #[.int .i64 ((i : Int) + 1), .int .i64 ((k : Int) + 1), .int .i64 (i : Int), .int .i64 ((k : Int) + 1), .int .i64 (i : Int), .int .i64 (k : Int)] 61))
                  have bxA := bx.alloc (.cells #[.int .i64 ((i : Int) + 1), .int .i64 ((k : Int) + 1), .int .i64 (i : Int), .int .i64 ((k : Int) + 1), .int .i64 (i : Int), .int .i64 (k : Int)] 61)
                  have hrow := EL.rowOne (E := gedE) (x := ((i, k, 2) : GE)) (Box.new w1 61 #[.int .i64 ((i : Int) + 1), .int .i64 ((k : Int) + 1), .int .i64 (i : Int), .int .i64 ((k : Int) + 1), .int .i64 (i : Int), .int .i64 (k : Int)]) rfl
                  have hsz := hEa.size
                  have HLB := Lib.hid (HBD.out i k hi hk)
                  have hll : ((rowsG (inL l) xs ys (n1 - 1) k ++ (List.range i).flatMap (fun i => cellG (inL l) xs ys i k)) ++ [((i, k, 0) : GE)]).length + ([((i, k, 2) : GE)] : List GE).length ≤ 1000000000 := by
                    have := HLB.out
                    simp only [List.length_append, List.length_cons, List.length_nil] at this ⊢; omega
                  clear hb
                  go_wp2_with (at_builtin; refine EL.wpApp gedE rfl _ _ rfl w.heap.size _ _ _ [((i, k, 2) : GE)] rfl rfl hownA hrow hll hsz ?_; intro v2 W2 own1 gr1 _; have hE2 := growExt hEa hownA (Nat.le_refl _) gr1; have bx2 := bxA.keptBy hownA (by decide) gr1)
                  replace hE := hE2
                  replace hown := own1
                  replace bx := bx2
                  clear hEa hownA bxA hrow hsz hll hE2 own1 gr1 bx2 cc
                  refine (HIN.out ((i : Int) - 1) (k : Int) _ hE ⟨by omega, by omega⟩ ⟨by omega, by omega⟩).mono ?_
                  rintro e w1 ⟨rfl, hE1⟩
                  replace hE := hE.trans hE1
                  replace hown := hown.ext hE1
                  replace bx := bx.ext hE1
                  clear hE1
                  cases hb : inG (inL l) xs ys ((i : Int) - 1) (k : Int)
                  · -- 3 0
                    have HN3 := Lib.hid (one_put (S := inL l) (xs := xs) (ys := ys) (g := ((i, k, 3) : GE)) hb)
                    have cc := bx.cell
                    have hEa := hE.trans (Ext.alloc w1 (.cells #[.int .i64 (i : Int), .int .i64 ((k : Int) + 1), .int .i64 (i : Int), .int .i64 (k : Int), .int .i64 (i : Int), .int .i64 (k : Int)] 61))
                    have hownA := hown.ext (Ext.alloc w1 (.cells #[.int .i64 (i : Int), .int .i64 ((k : Int) + 1), .int .i64 (i : Int), .int .i64 (k : Int), .int .i64 (i : Int), .int .i64 (k : Int)] 61))
                    have bxA := bx.alloc (.cells #[.int .i64 (i : Int), .int .i64 ((k : Int) + 1), .int .i64 (i : Int), .int .i64 (k : Int), .int .i64 (i : Int), .int .i64 (k : Int)] 61)
                    have hrow := EL.rowOne (E := gedE) (x := ((i, k, 3) : GE)) (Box.new w1 61 #[.int .i64 (i : Int), .int .i64 ((k : Int) + 1), .int .i64 (i : Int), .int .i64 (k : Int), .int .i64 (i : Int), .int .i64 (k : Int)]) rfl
                    have hsz := hEa.size
                    have HLB := Lib.hid (HBD.out i k hi hk)
                    have hll : (((rowsG (inL l) xs ys (n1 - 1) k ++ (List.range i).flatMap (fun i => cellG (inL l) xs ys i k)) ++ [((i, k, 0) : GE)]) ++ [((i, k, 2) : GE)]).length + ([((i, k, 3) : GE)] : List GE).length ≤ 1000000000 := by
                      have := HLB.out
                      simp only [List.length_append, List.length_cons, List.length_nil] at this ⊢; omega
                    clear hb
                    go_wp2_with (at_builtin; refine EL.wpApp gedE rfl _ _ rfl w.heap.size _ _ _ [((i, k, 3) : GE)] rfl rfl hownA hrow hll hsz ?_; intro v3 W3 own1 gr1 _; have hE2 := growExt hEa hownA (Nat.le_refl _) gr1; have bx2 := bxA.keptBy hownA (by decide) gr1)
                    replace hE := hE2
                    replace hown := own1
                    clear hEa hownA bxA hrow hsz hll hE2 own1 gr1 bx2 cc
                    have HNX := Lib.hid (show rowsG (inL l) xs ys (n1 - 1) k ++ (List.range (i + 1)).flatMap (fun i => cellG (inL l) xs ys i k) = (((rowsG (inL l) xs ys (n1 - 1) k ++ (List.range i).flatMap (fun i => cellG (inL l) xs ys i k)) ++ [((i, k, 0) : GE)]) ++ [((i, k, 2) : GE)]) ++ [((i, k, 3) : GE)] from by rw [flat_succ, cellG_in HIC.out, HN0.out, HN1.out, HN2.out, HN3.out]; simp)
                    go_roundw
                    case rel => exact ⟨i + 1, by omega, by go_num, hE, by rw [HNX.out]; exact hown⟩
                    case measure => simp [intOf]; omega
                  · -- 3 1
                    have HN3 := Lib.hid (one_skip (S := inL l) (xs := xs) (ys := ys) (g := ((i, k, 3) : GE)) hb)
                    clear hb
                    go_wp2_with fail
                    have HNX := Lib.hid (show rowsG (inL l) xs ys (n1 - 1) k ++ (List.range (i + 1)).flatMap (fun i => cellG (inL l) xs ys i k) = ((rowsG (inL l) xs ys (n1 - 1) k ++ (List.range i).flatMap (fun i => cellG (inL l) xs ys i k)) ++ [((i, k, 0) : GE)]) ++ [((i, k, 2) : GE)] from by rw [flat_succ, cellG_in HIC.out, HN0.out, HN1.out, HN2.out, HN3.out]; simp)
                    go_roundw
                    case rel => exact ⟨i + 1, by omega, by go_num, hE, by rw [HNX.out]; exact hown⟩
                    case measure => simp [intOf]; omega
                · -- 2 1
                  have HN2 := Lib.hid (one_skip (S := inL l) (xs := xs) (ys := ys) (g := ((i, k, 2) : GE)) hb)
                  clear hb
                  go_wp2_with fail
                  refine (HIN.out ((i : Int) - 1) (k : Int) _ hE ⟨by omega, by omega⟩ ⟨by omega, by omega⟩).mono ?_
                  rintro e w1 ⟨rfl, hE1⟩
                  replace hE := hE.trans hE1
                  replace hown := hown.ext hE1
                  replace bx := bx.ext hE1
                  clear hE1
                  cases hb : inG (inL l) xs ys ((i : Int) - 1) (k : Int)
                  · -- 3 0
                    have HN3 := Lib.hid (one_put (S := inL l) (xs := xs) (ys := ys) (g := ((i, k, 3) : GE)) hb)
                    have cc := bx.cell
                    have hEa := hE.trans (Ext.alloc w1 (.cells #[.int .i64 (i : Int), .int .i64 ((k : Int) + 1), .int .i64 (i : Int), .int .i64 (k : Int), .int .i64 (i : Int), .int .i64 (k : Int)] 61))
                    have hownA := hown.ext (Ext.alloc w1 (.cells #[.int .i64 (i : Int), .int .i64 ((k : Int) + 1), .int .i64 (i : Int), .int .i64 (k : Int), .int .i64 (i : Int), .int .i64 (k : Int)] 61))
                    have bxA := bx.alloc (.cells #[.int .i64 (i : Int), .int .i64 ((k : Int) + 1), .int .i64 (i : Int), .int .i64 (k : Int), .int .i64 (i : Int), .int .i64 (k : Int)] 61)
                    have hrow := EL.rowOne (E := gedE) (x := ((i, k, 3) : GE)) (Box.new w1 61 #[.int .i64 (i : Int), .int .i64 ((k : Int) + 1), .int .i64 (i : Int), .int .i64 (k : Int), .int .i64 (i : Int), .int .i64 (k : Int)]) rfl
                    have hsz := hEa.size
                    have HLB := Lib.hid (HBD.out i k hi hk)
                    have hll : ((rowsG (inL l) xs ys (n1 - 1) k ++ (List.range i).flatMap (fun i => cellG (inL l) xs ys i k)) ++ [((i, k, 0) : GE)]).length + ([((i, k, 3) : GE)] : List GE).length ≤ 1000000000 := by
                      have := HLB.out
                      simp only [List.length_append, List.length_cons, List.length_nil] at this ⊢; omega
                    clear hb
                    go_wp2_with (at_builtin; refine EL.wpApp gedE rfl _ _ rfl w.heap.size _ _ _ [((i, k, 3) : GE)] rfl rfl hownA hrow hll hsz ?_; intro v3 W3 own1 gr1 _; have hE2 := growExt hEa hownA (Nat.le_refl _) gr1; have bx2 := bxA.keptBy hownA (by decide) gr1)
                    replace hE := hE2
                    replace hown := own1
                    clear hEa hownA bxA hrow hsz hll hE2 own1 gr1 bx2 cc
                    have HNX := Lib.hid (show rowsG (inL l) xs ys (n1 - 1) k ++ (List.range (i + 1)).flatMap (fun i => cellG (inL l) xs ys i k) = ((rowsG (inL l) xs ys (n1 - 1) k ++ (List.range i).flatMap (fun i => cellG (inL l) xs ys i k)) ++ [((i, k, 0) : GE)]) ++ [((i, k, 3) : GE)] from by rw [flat_succ, cellG_in HIC.out, HN0.out, HN1.out, HN2.out, HN3.out]; simp)
                    go_roundw
                    case rel => exact ⟨i + 1, by omega, by go_num, hE, by rw [HNX.out]; exact hown⟩
                    case measure => simp [intOf]; omega
                  · -- 3 1
                    have HN3 := Lib.hid (one_skip (S := inL l) (xs := xs) (ys := ys) (g := ((i, k, 3) : GE)) hb)
                    clear hb
                    go_wp2_with fail
                    have HNX := Lib.hid (show rowsG (inL l) xs ys (n1 - 1) k ++ (List.range (i + 1)).flatMap (fun i => cellG (inL l) xs ys i k) = (rowsG (inL l) xs ys (n1 - 1) k ++ (List.range i).flatMap (fun i => cellG (inL l) xs ys i k)) ++ [((i, k, 0) : GE)] from by rw [flat_succ, cellG_in HIC.out, HN0.out, HN1.out, HN2.out, HN3.out]; simp)
                    go_roundw
                    case rel => exact ⟨i + 1, by omega, by go_num, hE, by rw [HNX.out]; exact hown⟩
                    case measure => simp [intOf]; omega
            · -- 0 1
              have HN0 := Lib.hid (one_skip (S := inL l) (xs := xs) (ys := ys) (g := ((i, k, 0) : GE)) hb)
              clear hb
              go_wp2_with fail
              refine (HIN.out ((i : Int) + 1) (k : Int) _ hE ⟨by omega, by omega⟩ ⟨by omega, by omega⟩).mono ?_
              rintro e w1 ⟨rfl, hE1⟩
              replace hE := hE.trans hE1
              replace hown := hown.ext hE1
              replace bx := bx.ext hE1
              clear hE1
              cases hb : inG (inL l) xs ys ((i : Int) + 1) (k : Int)
              · -- 1 0
                have HN1 := Lib.hid (one_put (S := inL l) (xs := xs) (ys := ys) (g := ((i, k, 1) : GE)) hb)
                have cc := bx.cell
                have hEa := hE.trans (Ext.alloc w1 (.cells #[.int .i64 ((i : Int) + 1), .int .i64 (k : Int), .int .i64 ((i : Int) + 1), .int .i64 ((k : Int) + 1), .int .i64 (i : Int), .int .i64 (k : Int)] 61))
                have hownA := hown.ext (Ext.alloc w1 (.cells #[.int .i64 ((i : Int) + 1), .int .i64 (k : Int), .int .i64 ((i : Int) + 1), .int .i64 ((k : Int) + 1), .int .i64 (i : Int), .int .i64 (k : Int)] 61))
                have bxA := bx.alloc (.cells #[.int .i64 ((i : Int) + 1), .int .i64 (k : Int), .int .i64 ((i : Int) + 1), .int .i64 ((k : Int) + 1), .int .i64 (i : Int), .int .i64 (k : Int)] 61)
                have hrow := EL.rowOne (E := gedE) (x := ((i, k, 1) : GE)) (Box.new w1 61 #[.int .i64 ((i : Int) + 1), .int .i64 (k : Int), .int .i64 ((i : Int) + 1), .int .i64 ((k : Int) + 1), .int .i64 (i : Int), .int .i64 (k : Int)]) rfl
                have hsz := hEa.size
                have HLB := Lib.hid (HBD.out i k hi hk)
                have hll : (rowsG (inL l) xs ys (n1 - 1) k ++ (List.range i).flatMap (fun i => cellG (inL l) xs ys i k)).length + ([((i, k, 1) : GE)] : List GE).length ≤ 1000000000 := by
                  have := HLB.out
                  simp only [List.length_append, List.length_cons, List.length_nil] at this ⊢; omega
                clear hb
                go_wp2_with (at_builtin; refine EL.wpApp gedE rfl _ _ rfl w.heap.size _ _ _ [((i, k, 1) : GE)] rfl rfl hownA hrow hll hsz ?_; intro v1 W1 own1 gr1 _; have hE2 := growExt hEa hownA (Nat.le_refl _) gr1; have bx2 := bxA.keptBy hownA (by decide) gr1)
                replace hE := hE2
                replace hown := own1
                replace bx := bx2
                clear hEa hownA bxA hrow hsz hll hE2 own1 gr1 bx2 cc
                refine (HIN.out (i : Int) ((k : Int) + 1) _ hE ⟨by omega, by omega⟩ ⟨by omega, by omega⟩).mono ?_
                rintro e w1 ⟨rfl, hE1⟩
                replace hE := hE.trans hE1
                replace hown := hown.ext hE1
                replace bx := bx.ext hE1
                clear hE1
                cases hb : inG (inL l) xs ys (i : Int) ((k : Int) + 1)
                · -- 2 0
                  have HN2 := Lib.hid (one_put (S := inL l) (xs := xs) (ys := ys) (g := ((i, k, 2) : GE)) hb)
                  have cc := bx.cell
                  have hEa := hE.trans (Ext.alloc w1 (.cells #[.int .i64 ((i : Int) + 1), .int .i64 ((k : Int) + 1), .int .i64 (i : Int), .int .i64 ((k : Int) + 1), .int .i64 (i : Int), .int .i64 (k : Int)] 61))
                  have hownA := hown.ext (Ext.alloc w1 (.cells #[.int .i64 ((i : Int) + 1), .int .i64 ((k : Int) + 1), .int .i64 (i : Int), .int .i64 ((k : Int) + 1), .int .i64 (i : Int), .int .i64 (k : Int)] 61))
                  have bxA := bx.alloc (.cells #[.int .i64 ((i : Int) + 1), .int .i64 ((k : Int) + 1), .int .i64 (i : Int), .int .i64 ((k : Int) + 1), .int .i64 (i : Int), .int .i64 (k : Int)] 61)
                  have hrow := EL.rowOne (E := gedE) (x := ((i, k, 2) : GE)) (Box.new w1 61 #[.int .i64 ((i : Int) + 1), .int .i64 ((k : Int) + 1), .int .i64 (i : Int), .int .i64 ((k : Int) + 1), .int .i64 (i : Int), .int .i64 (k : Int)]) rfl
                  have hsz := hEa.size
                  have HLB := Lib.hid (HBD.out i k hi hk)
                  have hll : ((rowsG (inL l) xs ys (n1 - 1) k ++ (List.range i).flatMap (fun i => cellG (inL l) xs ys i k)) ++ [((i, k, 1) : GE)]).length + ([((i, k, 2) : GE)] : List GE).length ≤ 1000000000 := by
                    have := HLB.out
                    simp only [List.length_append, List.length_cons, List.length_nil] at this ⊢; omega
                  clear hb
                  go_wp2_with (at_builtin; refine EL.wpApp gedE rfl _ _ rfl w.heap.size _ _ _ [((i, k, 2) : GE)] rfl rfl hownA hrow hll hsz ?_; intro v2 W2 own1 gr1 _; have hE2 := growExt hEa hownA (Nat.le_refl _) gr1; have bx2 := bxA.keptBy hownA (by decide) gr1)
                  replace hE := hE2
                  replace hown := own1
                  replace bx := bx2
                  clear hEa hownA bxA hrow hsz hll hE2 own1 gr1 bx2 cc
                  refine (HIN.out ((i : Int) - 1) (k : Int) _ hE ⟨by omega, by omega⟩ ⟨by omega, by omega⟩).mono ?_
                  rintro e w1 ⟨rfl, hE1⟩
                  replace hE := hE.trans hE1
                  replace hown := hown.ext hE1
                  replace bx := bx.ext hE1
                  clear hE1
                  cases hb : inG (inL l) xs ys ((i : Int) - 1) (k : Int)
                  · -- 3 0
                    have HN3 := Lib.hid (one_put (S := inL l) (xs := xs) (ys := ys) (g := ((i, k, 3) : GE)) hb)
                    have cc := bx.cell
                    have hEa := hE.trans (Ext.alloc w1 (.cells #[.int .i64 (i : Int), .int .i64 ((k : Int) + 1), .int .i64 (i : Int), .int .i64 (k : Int), .int .i64 (i : Int), .int .i64 (k : Int)] 61))
                    have hownA := hown.ext (Ext.alloc w1 (.cells #[.int .i64 (i : Int), .int .i64 ((k : Int) + 1), .int .i64 (i : Int), .int .i64 (k : Int), .int .i64 (i : Int), .int .i64 (k : Int)] 61))
                    have bxA := bx.alloc (.cells #[.int .i64 (i : Int), .int .i64 ((k : Int) + 1), .int .i64 (i : Int), .int .i64 (k : Int), .int .i64 (i : Int), .int .i64 (k : Int)] 61)
                    have hrow := EL.rowOne (E := gedE) (x := ((i, k, 3) : GE)) (Box.new w1 61 #[.int .i64 (i : Int), .int .i64 ((k : Int) + 1), .int .i64 (i : Int), .int .i64 (k : Int), .int .i64 (i : Int), .int .i64 (k : Int)]) rfl
                    have hsz := hEa.size
                    have HLB := Lib.hid (HBD.out i k hi hk)
                    have hll : (((rowsG (inL l) xs ys (n1 - 1) k ++ (List.range i).flatMap (fun i => cellG (inL l) xs ys i k)) ++ [((i, k, 1) : GE)]) ++ [((i, k, 2) : GE)]).length + ([((i, k, 3) : GE)] : List GE).length ≤ 1000000000 := by
                      have := HLB.out
                      simp only [List.length_append, List.length_cons, List.length_nil] at this ⊢; omega
                    clear hb
                    go_wp2_with (at_builtin; refine EL.wpApp gedE rfl _ _ rfl w.heap.size _ _ _ [((i, k, 3) : GE)] rfl rfl hownA hrow hll hsz ?_; intro v3 W3 own1 gr1 _; have hE2 := growExt hEa hownA (Nat.le_refl _) gr1; have bx2 := bxA.keptBy hownA (by decide) gr1)
                    replace hE := hE2
                    replace hown := own1
                    clear hEa hownA bxA hrow hsz hll hE2 own1 gr1 bx2 cc
                    have HNX := Lib.hid (show rowsG (inL l) xs ys (n1 - 1) k ++ (List.range (i + 1)).flatMap (fun i => cellG (inL l) xs ys i k) = (((rowsG (inL l) xs ys (n1 - 1) k ++ (List.range i).flatMap (fun i => cellG (inL l) xs ys i k)) ++ [((i, k, 1) : GE)]) ++ [((i, k, 2) : GE)]) ++ [((i, k, 3) : GE)] from by rw [flat_succ, cellG_in HIC.out, HN0.out, HN1.out, HN2.out, HN3.out]; simp)
                    go_roundw
                    case rel => exact ⟨i + 1, by omega, by go_num, hE, by rw [HNX.out]; exact hown⟩
                    case measure => simp [intOf]; omega
                  · -- 3 1
                    have HN3 := Lib.hid (one_skip (S := inL l) (xs := xs) (ys := ys) (g := ((i, k, 3) : GE)) hb)
                    clear hb
                    go_wp2_with fail
                    have HNX := Lib.hid (show rowsG (inL l) xs ys (n1 - 1) k ++ (List.range (i + 1)).flatMap (fun i => cellG (inL l) xs ys i k) = ((rowsG (inL l) xs ys (n1 - 1) k ++ (List.range i).flatMap (fun i => cellG (inL l) xs ys i k)) ++ [((i, k, 1) : GE)]) ++ [((i, k, 2) : GE)] from by rw [flat_succ, cellG_in HIC.out, HN0.out, HN1.out, HN2.out, HN3.out]; simp)
                    go_roundw
                    case rel => exact ⟨i + 1, by omega, by go_num, hE, by rw [HNX.out]; exact hown⟩
                    case measure => simp [intOf]; omega
                · -- 2 1
                  have HN2 := Lib.hid (one_skip (S := inL l) (xs := xs) (ys := ys) (g := ((i, k, 2) : GE)) hb)
                  clear hb
                  go_wp2_with fail
                  refine (HIN.out ((i : Int) - 1) (k : Int) _ hE ⟨by omega, by omega⟩ ⟨by omega, by omega⟩).mono ?_
                  rintro e w1 ⟨rfl, hE1⟩
                  replace hE := hE.trans hE1
                  replace hown := hown.ext hE1
                  replace bx := bx.ext hE1
                  clear hE1
                  cases hb : inG (inL l) xs ys ((i : Int) - 1) (k : Int)
                  · -- 3 0
                    have HN3 := Lib.hid (one_put (S := inL l) (xs := xs) (ys := ys) (g := ((i, k, 3) : GE)) hb)
                    have cc := bx.cell
                    have hEa := hE.trans (Ext.alloc w1 (.cells #[.int .i64 (i : Int), .int .i64 ((k : Int) + 1), .int .i64 (i : Int), .int .i64 (k : Int), .int .i64 (i : Int), .int .i64 (k : Int)] 61))
                    have hownA := hown.ext (Ext.alloc w1 (.cells #[.int .i64 (i : Int), .int .i64 ((k : Int) + 1), .int .i64 (i : Int), .int .i64 (k : Int), .int .i64 (i : Int), .int .i64 (k : Int)] 61))
                    have bxA := bx.alloc (.cells #[.int .i64 (i : Int), .int .i64 ((k : Int) + 1), .int .i64 (i : Int), .int .i64 (k : Int), .int .i64 (i : Int), .int .i64 (k : Int)] 61)
                    have hrow := EL.rowOne (E := gedE) (x := ((i, k, 3) : GE)) (Box.new w1 61 #[.int .i64 (i : Int), .int .i64 ((k : Int) + 1), .int .i64 (i : Int), .int .i64 (k : Int), .int .i64 (i : Int), .int .i64 (k : Int)]) rfl
                    have hsz := hEa.size
                    have HLB := Lib.hid (HBD.out i k hi hk)
                    have hll : ((rowsG (inL l) xs ys (n1 - 1) k ++ (List.range i).flatMap (fun i => cellG (inL l) xs ys i k)) ++ [((i, k, 1) : GE)]).length + ([((i, k, 3) : GE)] : List GE).length ≤ 1000000000 := by
                      have := HLB.out
                      simp only [List.length_append, List.length_cons, List.length_nil] at this ⊢; omega
                    clear hb
                    go_wp2_with (at_builtin; refine EL.wpApp gedE rfl _ _ rfl w.heap.size _ _ _ [((i, k, 3) : GE)] rfl rfl hownA hrow hll hsz ?_; intro v3 W3 own1 gr1 _; have hE2 := growExt hEa hownA (Nat.le_refl _) gr1; have bx2 := bxA.keptBy hownA (by decide) gr1)
                    replace hE := hE2
                    replace hown := own1
                    clear hEa hownA bxA hrow hsz hll hE2 own1 gr1 bx2 cc
                    have HNX := Lib.hid (show rowsG (inL l) xs ys (n1 - 1) k ++ (List.range (i + 1)).flatMap (fun i => cellG (inL l) xs ys i k) = ((rowsG (inL l) xs ys (n1 - 1) k ++ (List.range i).flatMap (fun i => cellG (inL l) xs ys i k)) ++ [((i, k, 1) : GE)]) ++ [((i, k, 3) : GE)] from by rw [flat_succ, cellG_in HIC.out, HN0.out, HN1.out, HN2.out, HN3.out]; simp)
                    go_roundw
                    case rel => exact ⟨i + 1, by omega, by go_num, hE, by rw [HNX.out]; exact hown⟩
                    case measure => simp [intOf]; omega
                  · -- 3 1
                    have HN3 := Lib.hid (one_skip (S := inL l) (xs := xs) (ys := ys) (g := ((i, k, 3) : GE)) hb)
                    clear hb
                    go_wp2_with fail
                    have HNX := Lib.hid (show rowsG (inL l) xs ys (n1 - 1) k ++ (List.range (i + 1)).flatMap (fun i => cellG (inL l) xs ys i k) = (rowsG (inL l) xs ys (n1 - 1) k ++ (List.range i).flatMap (fun i => cellG (inL l) xs ys i k)) ++ [((i, k, 1) : GE)] from by rw [flat_succ, cellG_in HIC.out, HN0.out, HN1.out, HN2.out, HN3.out]; simp)
                    go_roundw
                    case rel => exact ⟨i + 1, by omega, by go_num, hE, by rw [HNX.out]; exact hown⟩
                    case measure => simp [intOf]; omega
              · -- 1 1
                have HN1 := Lib.hid (one_skip (S := inL l) (xs := xs) (ys := ys) (g := ((i, k, 1) : GE)) hb)
                clear hb
                go_wp2_with fail
                refine (HIN.out (i : Int) ((k : Int) + 1) _ hE ⟨by omega, by omega⟩ ⟨by omega, by omega⟩).mono ?_
                rintro e w1 ⟨rfl, hE1⟩
                replace hE := hE.trans hE1
                replace hown := hown.ext hE1
                replace bx := bx.ext hE1
                clear hE1
                cases hb : inG (inL l) xs ys (i : Int) ((k : Int) + 1)
                · -- 2 0
                  have HN2 := Lib.hid (one_put (S := inL l) (xs := xs) (ys := ys) (g := ((i, k, 2) : GE)) hb)
                  have cc := bx.cell
                  have hEa := hE.trans (Ext.alloc w1 (.cells #[.int .i64 ((i : Int) + 1), .int .i64 ((k : Int) + 1), .int .i64 (i : Int), .int .i64 ((k : Int) + 1), .int .i64 (i : Int), .int .i64 (k : Int)] 61))
                  have hownA := hown.ext (Ext.alloc w1 (.cells #[.int .i64 ((i : Int) + 1), .int .i64 ((k : Int) + 1), .int .i64 (i : Int), .int .i64 ((k : Int) + 1), .int .i64 (i : Int), .int .i64 (k : Int)] 61))
                  have bxA := bx.alloc (.cells #[.int .i64 ((i : Int) + 1), .int .i64 ((k : Int) + 1), .int .i64 (i : Int), .int .i64 ((k : Int) + 1), .int .i64 (i : Int), .int .i64 (k : Int)] 61)
                  have hrow := EL.rowOne (E := gedE) (x := ((i, k, 2) : GE)) (Box.new w1 61 #[.int .i64 ((i : Int) + 1), .int .i64 ((k : Int) + 1), .int .i64 (i : Int), .int .i64 ((k : Int) + 1), .int .i64 (i : Int), .int .i64 (k : Int)]) rfl
                  have hsz := hEa.size
                  have HLB := Lib.hid (HBD.out i k hi hk)
                  have hll : (rowsG (inL l) xs ys (n1 - 1) k ++ (List.range i).flatMap (fun i => cellG (inL l) xs ys i k)).length + ([((i, k, 2) : GE)] : List GE).length ≤ 1000000000 := by
                    have := HLB.out
                    simp only [List.length_append, List.length_cons, List.length_nil] at this ⊢; omega
                  clear hb
                  go_wp2_with (at_builtin; refine EL.wpApp gedE rfl _ _ rfl w.heap.size _ _ _ [((i, k, 2) : GE)] rfl rfl hownA hrow hll hsz ?_; intro v2 W2 own1 gr1 _; have hE2 := growExt hEa hownA (Nat.le_refl _) gr1; have bx2 := bxA.keptBy hownA (by decide) gr1)
                  replace hE := hE2
                  replace hown := own1
                  replace bx := bx2
                  clear hEa hownA bxA hrow hsz hll hE2 own1 gr1 bx2 cc
                  refine (HIN.out ((i : Int) - 1) (k : Int) _ hE ⟨by omega, by omega⟩ ⟨by omega, by omega⟩).mono ?_
                  rintro e w1 ⟨rfl, hE1⟩
                  replace hE := hE.trans hE1
                  replace hown := hown.ext hE1
                  replace bx := bx.ext hE1
                  clear hE1
                  cases hb : inG (inL l) xs ys ((i : Int) - 1) (k : Int)
                  · -- 3 0
                    have HN3 := Lib.hid (one_put (S := inL l) (xs := xs) (ys := ys) (g := ((i, k, 3) : GE)) hb)
                    have cc := bx.cell
                    have hEa := hE.trans (Ext.alloc w1 (.cells #[.int .i64 (i : Int), .int .i64 ((k : Int) + 1), .int .i64 (i : Int), .int .i64 (k : Int), .int .i64 (i : Int), .int .i64 (k : Int)] 61))
                    have hownA := hown.ext (Ext.alloc w1 (.cells #[.int .i64 (i : Int), .int .i64 ((k : Int) + 1), .int .i64 (i : Int), .int .i64 (k : Int), .int .i64 (i : Int), .int .i64 (k : Int)] 61))
                    have bxA := bx.alloc (.cells #[.int .i64 (i : Int), .int .i64 ((k : Int) + 1), .int .i64 (i : Int), .int .i64 (k : Int), .int .i64 (i : Int), .int .i64 (k : Int)] 61)
                    have hrow := EL.rowOne (E := gedE) (x := ((i, k, 3) : GE)) (Box.new w1 61 #[.int .i64 (i : Int), .int .i64 ((k : Int) + 1), .int .i64 (i : Int), .int .i64 (k : Int), .int .i64 (i : Int), .int .i64 (k : Int)]) rfl
                    have hsz := hEa.size
                    have HLB := Lib.hid (HBD.out i k hi hk)
                    have hll : ((rowsG (inL l) xs ys (n1 - 1) k ++ (List.range i).flatMap (fun i => cellG (inL l) xs ys i k)) ++ [((i, k, 2) : GE)]).length + ([((i, k, 3) : GE)] : List GE).length ≤ 1000000000 := by
                      have := HLB.out
                      simp only [List.length_append, List.length_cons, List.length_nil] at this ⊢; omega
                    clear hb
                    go_wp2_with (at_builtin; refine EL.wpApp gedE rfl _ _ rfl w.heap.size _ _ _ [((i, k, 3) : GE)] rfl rfl hownA hrow hll hsz ?_; intro v3 W3 own1 gr1 _; have hE2 := growExt hEa hownA (Nat.le_refl _) gr1; have bx2 := bxA.keptBy hownA (by decide) gr1)
                    replace hE := hE2
                    replace hown := own1
                    clear hEa hownA bxA hrow hsz hll hE2 own1 gr1 bx2 cc
                    have HNX := Lib.hid (show rowsG (inL l) xs ys (n1 - 1) k ++ (List.range (i + 1)).flatMap (fun i => cellG (inL l) xs ys i k) = ((rowsG (inL l) xs ys (n1 - 1) k ++ (List.range i).flatMap (fun i => cellG (inL l) xs ys i k)) ++ [((i, k, 2) : GE)]) ++ [((i, k, 3) : GE)] from by rw [flat_succ, cellG_in HIC.out, HN0.out, HN1.out, HN2.out, HN3.out]; simp)
                    go_roundw
                    case rel => exact ⟨i + 1, by omega, by go_num, hE, by rw [HNX.out]; exact hown⟩
                    case measure => simp [intOf]; omega
                  · -- 3 1
                    have HN3 := Lib.hid (one_skip (S := inL l) (xs := xs) (ys := ys) (g := ((i, k, 3) : GE)) hb)
                    clear hb
                    go_wp2_with fail
                    have HNX := Lib.hid (show rowsG (inL l) xs ys (n1 - 1) k ++ (List.range (i + 1)).flatMap (fun i => cellG (inL l) xs ys i k) = (rowsG (inL l) xs ys (n1 - 1) k ++ (List.range i).flatMap (fun i => cellG (inL l) xs ys i k)) ++ [((i, k, 2) : GE)] from by rw [flat_succ, cellG_in HIC.out, HN0.out, HN1.out, HN2.out, HN3.out]; simp)
                    go_roundw
                    case rel => exact ⟨i + 1, by omega, by go_num, hE, by rw [HNX.out]; exact hown⟩
                    case measure => simp [intOf]; omega
                · -- 2 1
                  have HN2 := Lib.hid (one_skip (S := inL l) (xs := xs) (ys := ys) (g := ((i, k, 2) : GE)) hb)
                  clear hb
                  go_wp2_with fail
                  refine (HIN.out ((i : Int) - 1) (k : Int) _ hE ⟨by omega, by omega⟩ ⟨by omega, by omega⟩).mono ?_
                  rintro e w1 ⟨rfl, hE1⟩
                  replace hE := hE.trans hE1
                  replace hown := hown.ext hE1
                  replace bx := bx.ext hE1
                  clear hE1
                  cases hb : inG (inL l) xs ys ((i : Int) - 1) (k : Int)
                  · -- 3 0
                    have HN3 := Lib.hid (one_put (S := inL l) (xs := xs) (ys := ys) (g := ((i, k, 3) : GE)) hb)
                    have cc := bx.cell
                    have hEa := hE.trans (Ext.alloc w1 (.cells #[.int .i64 (i : Int), .int .i64 ((k : Int) + 1), .int .i64 (i : Int), .int .i64 (k : Int), .int .i64 (i : Int), .int .i64 (k : Int)] 61))
                    have hownA := hown.ext (Ext.alloc w1 (.cells #[.int .i64 (i : Int), .int .i64 ((k : Int) + 1), .int .i64 (i : Int), .int .i64 (k : Int), .int .i64 (i : Int), .int .i64 (k : Int)] 61))
                    have bxA := bx.alloc (.cells #[.int .i64 (i : Int), .int .i64 ((k : Int) + 1), .int .i64 (i : Int), .int .i64 (k : Int), .int .i64 (i : Int), .int .i64 (k : Int)] 61)
                    have hrow := EL.rowOne (E := gedE) (x := ((i, k, 3) : GE)) (Box.new w1 61 #[.int .i64 (i : Int), .int .i64 ((k : Int) + 1), .int .i64 (i : Int), .int .i64 (k : Int), .int .i64 (i : Int), .int .i64 (k : Int)]) rfl
                    have hsz := hEa.size
                    have HLB := Lib.hid (HBD.out i k hi hk)
                    have hll : (rowsG (inL l) xs ys (n1 - 1) k ++ (List.range i).flatMap (fun i => cellG (inL l) xs ys i k)).length + ([((i, k, 3) : GE)] : List GE).length ≤ 1000000000 := by
                      have := HLB.out
                      simp only [List.length_append, List.length_cons, List.length_nil] at this ⊢; omega
                    clear hb
                    go_wp2_with (at_builtin; refine EL.wpApp gedE rfl _ _ rfl w.heap.size _ _ _ [((i, k, 3) : GE)] rfl rfl hownA hrow hll hsz ?_; intro v3 W3 own1 gr1 _; have hE2 := growExt hEa hownA (Nat.le_refl _) gr1; have bx2 := bxA.keptBy hownA (by decide) gr1)
                    replace hE := hE2
                    replace hown := own1
                    clear hEa hownA bxA hrow hsz hll hE2 own1 gr1 bx2 cc
                    have HNX := Lib.hid (show rowsG (inL l) xs ys (n1 - 1) k ++ (List.range (i + 1)).flatMap (fun i => cellG (inL l) xs ys i k) = (rowsG (inL l) xs ys (n1 - 1) k ++ (List.range i).flatMap (fun i => cellG (inL l) xs ys i k)) ++ [((i, k, 3) : GE)] from by rw [flat_succ, cellG_in HIC.out, HN0.out, HN1.out, HN2.out, HN3.out]; simp)
                    go_roundw
                    case rel => exact ⟨i + 1, by omega, by go_num, hE, by rw [HNX.out]; exact hown⟩
                    case measure => simp [intOf]; omega
                  · -- 3 1
                    have HN3 := Lib.hid (one_skip (S := inL l) (xs := xs) (ys := ys) (g := ((i, k, 3) : GE)) hb)
                    clear hb
                    go_wp2_with fail
                    have HNX := Lib.hid (show rowsG (inL l) xs ys (n1 - 1) k ++ (List.range (i + 1)).flatMap (fun i => cellG (inL l) xs ys i k) = rowsG (inL l) xs ys (n1 - 1) k ++ (List.range i).flatMap (fun i => cellG (inL l) xs ys i k) from by rw [flat_succ, cellG_in HIC.out, HN0.out, HN1.out, HN2.out, HN3.out]; simp)
                    go_roundw
                    case rel => exact ⟨i + 1, by omega, by go_num, hE, by rw [HNX.out]; exact hown⟩
                    case measure => simp [intOf]; omega
        · have di : ((i : Int) + 1 < (n1 : Int)) = False := eq_false (by omega)
          have hin : i = n1 - 1 := by omega
          have HNX := Lib.hid (show rowsG (inL l) xs ys (n1 - 1) (k + 1) = rowsG (inL l) xs ys (n1 - 1) k ++ (List.range i).flatMap (fun i => cellG (inL l) xs ys i k) from by
            rw [show rowsG (inL l) xs ys (n1 - 1) (k + 1) = rowsG (inL l) xs ys (n1 - 1) k ++ rowG (inL l) xs ys (n1 - 1) k from flat_succ _ _, hin]; rfl)
          clear hin
          go_wp2
          go_roundw
          case rel => exact ⟨k + 1, by omega, by go_num, hE, by rw [HNX.out]; exact hown⟩
          case measure => simp [intOf]; omega
    · have dk : ((k : Int) + 1 < (n2 : Int)) = False := eq_false (by omega)
      have hkn : k = n2 - 1 := by omega
      have HNX := Lib.hid (show rowsG (inL l) xs ys (n1 - 1) k = boundG (inL l) xs ys from by rw [hkn]; exact HBG.out)
      clear hkn
      go_wp2
      exact bodyPost_ret (v := u7) (by simp [results, Tryz.results22, go_sem, List.size_toArray]) rfl ⟨_, rfl, hE, by rw [← HNX.out]; exact hown⟩
end Go.Proofs.YtkjpcjmbhpfelaaGreat
