/- TileHilbertNeighbours: the walk. -/
import Derived.Test.YtefdheoalonbaaaEx
import Derived.BigRegion
set_option linter.unusedVariables false
set_option linter.unusedSimpArgs false
namespace Go.Proofs.Ytefdheoalonbaaa
open Go.RowKit Go.Par

def nlOk (n : Nat) (l : List Int) : Bool :=
  decide (l.length = n * n) && decide (l[0]? = some 0) && decide (l[n * n - 1]? = some ((n : Int) - 1)) &&
    (List.range (n * n - 1)).all fun i => match l[i]?, l[i + 1]? with
      | some a, some b => decide (0 ≤ a) && decide (a < 256) && decide (0 ≤ b) && decide (b < 256) && decide (((a.toNat % n : Nat) - (b.toNat % n : Nat) : Int) * ((a.toNat % n : Nat) - (b.toNat % n : Nat)) + ((a.toNat / n : Nat) - (b.toNat / n : Nat) : Int) * ((a.toNat / n : Nat) - (b.toNat / n : Nat)) = 1)
      | _, _ => false
theorem nl_ok : ∀ K, K < 5 → nlOk (2 ^ K) (hilT ((2 ^ K : Nat) : Int) ((2 ^ K : Nat) : Int) (hilF K)) = true := by decide +kernel
theorem ordK_pow : ∀ K, K < 5 → ordK (2 ^ K) = K := by decide +kernel
theorem nl_facts {n : Nat} {l : List Int} (h : nlOk n l = true) : l.length = n * n ∧ l[0]? = some 0 ∧ l[n * n - 1]? = some ((n : Int) - 1) ∧
    ∀ i, i + 1 < n * n → ∃ a b : Nat, l[i]? = some (a : Int) ∧ l[i + 1]? = some (b : Int) ∧ a < 256 ∧ b < 256 ∧ ((a % n : Nat) - (b % n : Nat) : Int) * ((a % n : Nat) - (b % n : Nat)) + ((a / n : Nat) - (b / n : Nat) : Int) * ((a / n : Nat) - (b / n : Nat)) = 1 := by
  simp only [nlOk, Bool.and_eq_true, decide_eq_true_eq, List.all_eq_true, List.mem_range] at h
  obtain ⟨⟨⟨h1, h2⟩, h3⟩, h4⟩ := h
  refine ⟨h1, h2, h3, fun i hi => ?_⟩
  have := h4 i (by omega)
  cases ha : l[i]? with
  | none => rw [ha] at this; simp at this
  | some a =>
    cases hb : l[i + 1]? with
    | none => rw [ha, hb] at this; simp at this
    | some b =>
      rw [ha, hb] at this
      simp only [Bool.and_eq_true, decide_eq_true_eq] at this
      obtain ⟨⟨⟨⟨p1, p2⟩, p3⟩, p4⟩, p5⟩ := this
      exact ⟨a.toNat, b.toNat, by congr 1; omega, by congr 1; omega, by omega, by omega, p5⟩
theorem sq_nn (a : Int) : 0 ≤ a * a := by
  rcases Int.le_total 0 a with h | h
  · exact Int.mul_nonneg h h
  · have := Int.mul_nonneg (show 0 ≤ -a by omega) (show 0 ≤ -a by omega)
    rwa [Int.neg_mul_neg] at this
theorem times_mul {n m : Nat} (hn : 1 ≤ n) (hm : 1 ≤ m) : timesS ((m : Int) * (n : Int)) m = n := by
  unfold timesS
  have e : (m : Int) * (n : Int) - 1 = ((m * n - 1 : Nat) : Int) := by
    have : 1 ≤ m * n := Nat.le_trans hn (Nat.le_mul_of_pos_left n hm)
    rw [← Int.natCast_mul]; omega
  rw [e, ← Int.ofNat_tdiv]
  have h1 : (m * n - 1) / m = n - 1 := by
    rw [show m * n - 1 = (m - 1) + m * (n - 1) by
      obtain ⟨k, rfl⟩ : ∃ k, n = k + 1 := ⟨n - 1, by omega⟩
      rw [Nat.mul_add, Nat.mul_one]; simp; omega, Nat.add_mul_div_left _ _ hm, Nat.div_eq_of_lt (by omega)]
    omega
  rw [h1]; omega
theorem hilOrd_sq {K : Nat} (hK : K < 5) {x y : Int} (hx : -128 ≤ x ∧ x ≤ 127) (hy : -128 ≤ y ∧ y ≤ 127) :
    nlOk (2 ^ K) (hilOrd (x, y, x + 2 * ((2 ^ K : Nat) : Int), y + 3 * ((2 ^ K : Nat) : Int)) 2 3) = true := by
  have hp1 : 1 ≤ 2 ^ K := Nat.one_le_two_pow
  have hp2 : 2 ^ K ≤ 16 := Nat.le_trans (Nat.pow_le_pow_right (by decide) (show K ≤ 4 by omega)) (by decide)
  have t1 := times_mul (m := 2) hp1 (by omega)
  have t2 := times_mul (m := 3) hp1 (by omega)
  have hk := ordK_pow K hK
  have ho := nl_ok K hK
  generalize 2 ^ K = n at *
  have hnn : n * n ≤ 16 * 16 := Nat.mul_le_mul hp2 hp2
  have e1 : x + 2 * (n : Int) - x = 2 * (n : Int) := by omega
  have e2 : y + 3 * (n : Int) - y = 3 * (n : Int) := by omega
  have hv : validT (x, y, x + 2 * (n : Int), y + 3 * (n : Int)) 2 3 = true := by
    unfold validT
    dsimp only
    rw [e1, e2]
    have := t1
    have h2 := t2
    simp only [Int.cast_ofNat_Int] at this h2
    rw [this, h2]
    have he : rectEmptyS (x, y, x + 2 * (n : Int), y + 3 * (n : Int)) = false := by
      simp only [rectEmptyS, rectValidS, inR, Bool.or_eq_false_iff, Bool.not_eq_false', Bool.and_eq_true, decide_eq_true_eq, decide_eq_false_iff_not]
      omega
    rw [he]
    have : (n : Int) * (n : Int) ≤ 256 := by rw [← Int.natCast_mul]; omega
    simp [this]
  unfold hilOrd
  rw [hv, if_pos rfl]
  dsimp only
  rw [e1, e2]
  have h1 := t1
  have h2 := t2
  simp only [Int.cast_ofNat_Int] at h1 h2
  rw [h1, h2, show (max (n : Int) (n : Int)).toNat = n by omega, hk]
  exact ho
set_option maxRecDepth 100000 in
set_option maxHeartbeats 1600000 in
theorem tileHilbertNeighbours_any (k x y : Int) (w : World) (hx : -128 ≤ x ∧ x ≤ 127) (hy : -128 ≤ y ∧ y ≤ 127) :
    Calls Try.prog 12 #[.int .i64 k, .int .i8 x, .int .i8 y] w fun e w' => e = .returned (.bool true) ∧ Ext w w' := by
  obtain ⟨U, hU, hU0⟩ : ∃ U, IntKind.u64.wrap k = U ∧ 0 ≤ U := ⟨_, rfl, by rw [IntKind.wrap_u64]; omega⟩
  have HU := Lib.hid hU
  clear hU
  obtain ⟨K, hK, hK5⟩ : ∃ K : Nat, U % 5 = K ∧ K < 5 := ⟨(U % 5).toNat, by omega, by omega⟩
  have hK' : U.tmod 5 = (K : Int) := by rw [Int.tmod_eq_emod_of_nonneg hU0]; exact hK
  have hnl := hilOrd_sq hK5 hx hy
  have hp1 : 1 ≤ 2 ^ K := Nat.one_le_two_pow
  have hp2 : 2 ^ K ≤ 16 := Nat.le_trans (Nat.pow_le_pow_right (by decide) (show K ≤ 4 by omega)) (by decide)
  have e2 := Lib.hid (Int.natCast_pow 2 K).symm
  generalize 2 ^ K = n at *
  have hnn : n * n ≤ 16 * 16 := Nat.mul_le_mul hp2 hp2
  have hnn1 : 1 ≤ n * n := Nat.mul_le_mul hp1 hp1
  have HH := Lib.hid (fun W => HilbertOrder_any x y (x + 2 * (n : Int)) (y + 3 * (n : Int)) 2 3 W)
  generalize hilOrd (x, y, x + 2 * (n : Int), y + 3 * (n : Int)) 2 3 = l at *
  obtain ⟨f1, f2, f3, f4⟩ := nl_facts hnl
  have HL := Lib.hid f1
  have H0 := Lib.hid f2
  have HZ := Lib.hid f3
  have HA := Lib.hid f4
  clear hnl f1 f2 f3 f4
  have q0 : IntKind.i64.wrap (n : Int) = (n : Int) := IntWalk.i64_in _ (by omega)
  have q00 : wrap64 (n : Int) = (n : Int) := IntWalk.wrap64_in _ (by omega)
  have q1 : IntKind.i64.wrap x = x := IntWalk.i64_in _ (by omega)
  have q2 : IntKind.i64.wrap y = y := IntWalk.i64_in _ (by omega)
  have q3 : IntKind.i64.wrap (2 * (n : Int)) = 2 * (n : Int) := IntWalk.i64_in _ (by omega)
  have q4 : IntKind.i64.wrap (3 * (n : Int)) = 3 * (n : Int) := IntWalk.i64_in _ (by omega)
  have q5 : IntKind.i64.wrap (x + 2 * (n : Int)) = x + 2 * (n : Int) := IntWalk.i64_in _ (by omega)
  have q6 : IntKind.i64.wrap (y + 3 * (n : Int)) = y + 3 * (n : Int) := IntWalk.i64_in _ (by omega)
  have e2' := e2.out
  simp only [Int.cast_ofNat_Int] at e2'
  have hU := HU.out
  go_enter Try.func12, Try.ntmps12
  go_wp2_with fail
  clear hU e2' e2 HU hK hK' q00 q1 q2 q3 q4 q5 q6 hU0
  refine (HH.out _).mono ?_
  rintro e w1 ⟨v, rfl, hE, hown⟩
  replace hE := (Ext.alloc _ _).trans hE
  obtain ⟨N, hN⟩ : ∃ N, n * n = N + 1 := ⟨n * n - 1, by omega⟩
  have hNN : ((n : Int) * (n : Int)) = (N : Int) + 1 := by rw [← Int.natCast_mul, hN]; push_cast; rfl
  rw [hN] at HL HZ HA hnn
  rw [Nat.add_sub_cancel] at HZ
  obtain ⟨A, c, rfl, hlc, hat⟩ := hown.at HL.out (by omega)
  obtain ⟨bb, o, rfl, hcell⟩ := hat (fun e => by have := HL.out; rw [e] at this; simp at this)
  have e0 := intE_cell hcell H0.out
  rw [Nat.add_zero] at e0
  have e1 := intE_cell hcell HZ.out
  have HC := Lib.hid hcell
  have r1 : IntKind.i64.wrap ((N : Int) + 1) = (N : Int) + 1 := IntWalk.i64_in _ (by omega)
  have r2 : IntKind.i64.wrap (N : Int) = (N : Int) := IntWalk.i64_in _ (by omega)
  have r3 : IntKind.i64.wrap ((n : Int) - 1) = (n : Int) - 1 := IntWalk.i64_in _ (by omega)
  clear hcell hat hown hN hnn1 HH
  go_wp2_with fail
  go_loopw [10] (fun i wr => ∃ j : Nat, j ≤ N ∧ i = .int .i64 ((j : Int) + 1) ∧ Ext w1 wr) (fun i _ => N + 1 - (intOf i).toNat)
  case atStart => exact ⟨0, Nat.zero_le _, rfl, Ext.refl _⟩
  case round =>
    obtain ⟨j, hj, rfl, hE1⟩ := hrel
    by_cases hlt : j < N
    · have dj : ((j : Int) < (N : Int)) = True := eq_true (by omega)
      obtain ⟨a, b, ha, hb, ha2, hb2, hab⟩ := HA.out j (by omega)
      have f0 := hE1.cell (intE_cell HC.out ha)
      have f1 := hE1.cell (intE_cell HC.out hb)
      have s1 : IntKind.i64.wrap (j : Int) = (j : Int) := IntWalk.i64_in _ (by omega)
      have s2 : IntKind.i64.wrap ((j : Int) + 1 + 1) = (j : Int) + 1 + 1 := IntWalk.i64_in _ (by omega)
      have n0 : ¬ n = 0 := by omega
      have a1 : ((a : Int).tmod (n : Int)) = ((a % n : Nat) : Int) := rfl
      have a2 : ((a : Int).tdiv (n : Int)) = ((a / n : Nat) : Int) := rfl
      have a3 : ((a : Int) % (n : Int)) = ((a % n : Nat) : Int) := rfl
      have a4 : ((a : Int) / (n : Int)) = ((a / n : Nat) : Int) := rfl
      have b1 : ((b : Int).tmod (n : Int)) = ((b % n : Nat) : Int) := rfl
      have b2 : ((b : Int).tdiv (n : Int)) = ((b / n : Nat) : Int) := rfl
      have b3 : ((b : Int) % (n : Int)) = ((b % n : Nat) : Int) := rfl
      have b4 : ((b : Int) / (n : Int)) = ((b / n : Nat) : Int) := rfl
      have g1 := Nat.mod_lt a hp1
      have g2 := Nat.mod_lt b hp1
      have g3 := Nat.div_le_self a n
      have g4 := Nat.div_le_self b n
      clear ha hb
      generalize a % n = p at *
      generalize a / n = q at *
      generalize b % n = p' at *
      generalize b / n = q' at *
      have t1 : IntKind.i64.wrap ((p : Int) - (p' : Int)) = (p : Int) - (p' : Int) := IntWalk.i64_in _ (by omega)
      have t2 : IntKind.i64.wrap ((q : Int) - (q' : Int)) = (q : Int) - (q' : Int) := IntWalk.i64_in _ (by omega)
      have t0 : IntKind.i64.wrap (q : Int) = (q : Int) := IntWalk.i64_in _ (by omega)
      have t00 : IntKind.i64.wrap (q' : Int) = (q' : Int) := IntWalk.i64_in _ (by omega)
      have hz1 : 0 ≤ ((p : Int) - (p' : Int)) * ((p : Int) - (p' : Int)) := sq_nn _
      have hz2 : 0 ≤ ((q : Int) - (q' : Int)) * ((q : Int) - (q' : Int)) := sq_nn _
      generalize hdx : (p : Int) - (p' : Int) = dx at *
      generalize hdy : (q : Int) - (q' : Int) = dy at *
      generalize hxx : dx * dx = xx at *
      generalize hyy : dy * dy = yy at *
      have t3 : IntKind.i64.wrap xx = xx := IntWalk.i64_in _ (by omega)
      have t4 : IntKind.i64.wrap yy = yy := IntWalk.i64_in _ (by omega)
      have t5 : IntKind.i64.wrap (xx + yy) = xx + yy := IntWalk.i64_in _ (by omega)
      clear g1 g2 g3 g4 hz1 hz2 ha2 hb2
      go_wp2_with fail
      go_quiet (fail)
      go_wp2_with fail
      go_quiet (fail)
      go_wp2_with fail
      go_roundw
      case rel => exact ⟨j + 1, by omega, by go_num, hE1.drewN _⟩
      case measure => simp [intOf]; omega
    · have dj : ((j : Int) < (N : Int)) = False := eq_false (by omega)
      go_wp2_with fail
      refine (example_any _).mono ?_
      rintro e w4 ⟨rfl, hE4⟩
      go_wp2
      go_ret
      exact ⟨rfl, (hE.trans hE1).trans hE4⟩
end Go.Proofs.Ytefdheoalonbaaa
