/- spread, morton. -/
import Derived.Test.YtefdheoalonbaaaInts
import Derived.Laws.Bits64
import Derived.Laws.Shifts
import Derived.Laws.ShiftsVar
import Derived.Laws.ShiftsVarLaws
import Derived.Laws.BitsAllLaws
set_option linter.unusedVariables false
set_option linter.unusedSimpArgs false
namespace Go.Proofs.Ytefdheoalonbaaa
open Go.RowKit Go.Par

theorem isNaN_any (n : Int) (w : World) :
    Calls Try.prog 77 #[.int .i64 n] w fun e w' => e = .returned (.bool false) ∧ w = w' := by
  go_enter Try.func77, Try.ntmps77
  go_wp2
  go_ret
  exact ⟨ret_eq (by simp), rfl⟩
def cmpS (a b : Int) : Int := if a < b then -1 else if b < a then 1 else 0
theorem Compare_any (a b : Int) (w : World) :
    Calls Try.prog 60 #[.int .i64 a, .int .i64 b] w fun e w' => e = .returned (.int .i64 (cmpS a b)) ∧ w = w' := by
  go_enter Try.func60, Try.ntmps60
  go_wp2_with fail
  refine (isNaN_any _ _).mono ?_
  rintro e w1 ⟨rfl, rfl⟩
  go_wp2_with fail
  refine (isNaN_any _ _).mono ?_
  rintro e w1 ⟨rfl, rfl⟩
  by_cases h1 : a < b
  · have HR := Lib.hid (show cmpS a b = -1 from by unfold cmpS; rw [if_pos h1])
    have d1 : (a < b) = True := eq_true h1
    clear h1
    go_wp2
    go_ret
    exact ⟨ret_eq (by rw [HR.out]; rfl), rfl⟩
  · have d1 : (a < b) = False := eq_false h1
    by_cases h2 : b < a
    · have HR := Lib.hid (show cmpS a b = 1 from by unfold cmpS; rw [if_neg h1, if_pos h2])
      have d2 : (b < a) = True := eq_true h2
      clear h1 h2
      go_wp2
      go_ret
      exact ⟨ret_eq (by rw [HR.out]; rfl), rfl⟩
    · have HR := Lib.hid (show cmpS a b = 0 from by unfold cmpS; rw [if_neg h1, if_neg h2])
      have d2 : (b < a) = False := eq_false h2
      clear h1 h2
      go_wp2
      go_ret
      exact ⟨ret_eq (by rw [HR.out]; rfl), rfl⟩
theorem i64_ofInt (a : Nat) (ha : a < 9223372036854775808) : (BitVec.ofInt 64 (a : Int)).toNat = a := by
  rw [BitVec.ofInt_natCast, BitVec.toNat_ofNat]; exact Nat.mod_eq_of_lt (by omega)
theorem i64_and_nat (a b : Nat) (ha : a < 9223372036854775808) (hb : b < 9223372036854775808) : bits .and .i64 (a : Int) (b : Int) = ((a &&& b : Nat) : Int) := by
  have hx : a &&& b < 2 ^ 63 := Nat.and_lt_two_pow _ (by omega)
  show IntKind.i64.wrap ((BitVec.ofInt 64 (a : Int) &&& BitVec.ofInt 64 (b : Int)).toNat : Int) = _
  rw [BitVec.toNat_and, i64_ofInt a ha, i64_ofInt b hb, IntWalk.i64_in _ (by omega)]
theorem i64_or_nat (a b : Nat) (ha : a < 9223372036854775808) (hb : b < 9223372036854775808) : bits .or .i64 (a : Int) (b : Int) = ((a ||| b : Nat) : Int) := by
  have hx : a ||| b < 2 ^ 63 := Nat.or_lt_two_pow (by omega) (by omega)
  show IntKind.i64.wrap ((BitVec.ofInt 64 (a : Int) ||| BitVec.ofInt 64 (b : Int)).toNat : Int) = _
  rw [BitVec.toNat_or, i64_ofInt a ha, i64_ofInt b hb, IntWalk.i64_in _ (by omega)]
/-! ## plain -/
def spF (n : Nat) : Nat → Nat
  | 0 => 0
  | k + 1 => spF n k ||| (n / 2 ^ k % 2 * 2 ^ (2 * k))
def spS (n : Nat) : Nat := spF n 16
def moF (c r : Nat) : Nat → Nat
  | 0 => 0
  | k + 1 => moF c r k + c / 2 ^ k % 2 * 2 ^ (2 * k) + r / 2 ^ k % 2 * 2 ^ (2 * k + 1)
def moS (c r : Nat) : Nat := moF c r 10
theorem spF_lt : ∀ n, n < 256 → ∀ k, k < 17 → spF n k < 65536 := by decide +kernel
theorem moF_lt (c r : Nat) : ∀ k, k < 11 → moF c r k < 2 ^ (2 * k)
  | 0, _ => by show 0 < 1; decide
  | k + 1, h => by
    have ih := moF_lt c r k (by omega)
    have h1 : c / 2 ^ k % 2 ≤ 1 := by omega
    have h2 : r / 2 ^ k % 2 ≤ 1 := by omega
    have e : 2 ^ (2 * (k + 1)) = 4 * 2 ^ (2 * k) := by rw [show 2 * (k + 1) = 2 * k + 2 by omega, Nat.pow_add]; omega
    have e2 : 2 ^ (2 * k + 1) = 2 * 2 ^ (2 * k) := by rw [Nat.pow_succ]; omega
    have b1 := Nat.mul_le_mul_right (2 ^ (2 * k)) h1
    have b2 := Nat.mul_le_mul_right (2 ^ (2 * k + 1)) h2
    rw [Nat.one_mul] at b1 b2
    unfold moF
    omega
theorem bit_le (x k : Nat) (hk : k ≤ 31) : x % 2 * 2 ^ k ≤ 2147483648 := by
  have h1 : x % 2 ≤ 1 := by omega
  have h2 : 2 ^ k ≤ 2 ^ 31 := Nat.pow_le_pow_right (by decide) hk
  have := Nat.mul_le_mul h1 h2
  omega
/-- one bit of a number, as the model reckons it -/
theorem bit_run (n k : Nat) (hn : n < 256) : bits BinOp.and IntKind.i64 ((n : Int) / 2 ^ k) 1 = ((n / 2 ^ k % 2 : Nat) : Int) := by
  have e : (n : Int) / 2 ^ k = ((n / 2 ^ k : Nat) : Int) := by push_cast; rfl
  rw [e]
  have := i64_and_nat (n / 2 ^ k) 1 (Nat.lt_of_le_of_lt (Nat.div_le_self _ _) (by omega)) (by decide)
  rw [show ((1 : Nat) : Int) = 1 from rfl] at this
  rw [this, Nat.and_one_is_mod]
theorem wrap_bit (x k : Nat) (hk : k ≤ 31) : wrap64 (((x % 2 : Nat) : Int) * 2 ^ k) = ((x % 2 * 2 ^ k : Nat) : Int) := by
  have h := bit_le x k hk
  have e : ((x % 2 : Nat) : Int) * 2 ^ k = ((x % 2 * 2 ^ k : Nat) : Int) := by push_cast; rfl
  rw [e]
  exact IntWalk.wrap64_in _ (by omega)
set_option maxHeartbeats 800000 in
theorem spread_any (n : Nat) (w : World) (hn : n < 256) :
    Calls Try.prog 78 #[.int .i64 n] w fun e w' => e = .returned (.int .i64 (spS n)) ∧ w = w' := by
  go_enter Try.func78, Try.ntmps78
  go_wp2_with fail
  go_loopw [3, 4, 5] (fun s _ i wr => w = wr ∧ ∃ k : Nat, k ≤ 16 ∧ i = .int .i64 k ∧ s = .int .i64 (spF n k : Nat)) (fun _ _ i _ => 16 - (intOf i).toNat)
  case atStart => exact ⟨rfl, 0, by omega, rfl, rfl⟩
  case round =>
    obtain ⟨rfl, k, hk, rfl, rfl⟩ := hrel
    by_cases hlt : k < 16
    · have d1 : ((k : Int) < 16) = True := eq_true (by omega)
      have q1 : IntKind.i64.wrap ((k : Int) + 1) = (k : Int) + 1 := IntWalk.i64_in _ (by omega)
      have q2 : IntKind.i64.wrap (2 * (k : Int)) = 2 * (k : Int) := IntWalk.i64_in _ (by omega)
      have q3 := bit_run n k hn
      have q4 := wrap_bit (n / 2 ^ k) (2 * k) (by omega)
      have q5 := i64_or_nat (spF n k) (n / 2 ^ k % 2 * 2 ^ (2 * k)) (Nat.lt_trans (spF_lt n hn k (by omega)) (by decide)) (by have := bit_le (n / 2 ^ k) (2 * k) (by omega); omega)
      have e : spF n (k + 1) = spF n k ||| (n / 2 ^ k % 2 * 2 ^ (2 * k)) := rfl
      rw [← e] at q5
      have HS := Lib.hid (show bits BinOp.or IntKind.i64 (spF n k : Int) (wrap64 (bits BinOp.and IntKind.i64 ((n : Int) / 2 ^ k) 1 * 2 ^ (2 * k))) = ((spF n (k + 1) : Nat) : Int) from by rw [q3, q4, q5])
      clear q3 q4 q5 e
      go_wp2
      go_roundw
      case rel => exact ⟨by trivial, k + 1, by omega, by go_num, by rw [HS.out]⟩
      case measure => simp [intOf]; omega
    · obtain rfl : k = 16 := by omega
      go_wp2
      go_ret
      exact ⟨rfl, rfl⟩
def moT (c r : Nat) : Nat := spS c ||| (spS r * 2)
theorem spS_lt {n : Nat} (h : n < 256) : spS n < 65536 := spF_lt n h 16 (by decide)
set_option maxHeartbeats 800000 in
theorem morton_any (c r : Nat) (w : World) (hc : c < 256) (hr : r < 256) :
    Calls Try.prog 61 #[.int .i64 c, .int .i64 r] w fun e w' => e = .returned (.int .i64 (moT c r)) ∧ w = w' := by
  have HC := Lib.hid (fun W => spread_any c W hc)
  have HR := Lib.hid (fun W => spread_any r W hr)
  have b1 := spS_lt hc
  have b2 := spS_lt hr
  have HM := Lib.hid (show moT c r = spS c ||| (spS r * 2) from rfl)
  generalize spS c = p at *
  generalize spS r = q at *
  have q1 : IntKind.i64.wrap ((q : Int) * 2) = (q : Int) * 2 := IntWalk.i64_in _ (by omega)
  have q5 := i64_or_nat p (q * 2) (by omega) (by omega)
  rw [← HM.out] at q5
  push_cast at q5
  go_enter Try.func61, Try.ntmps61
  go_wp2_with fail
  refine (HC.out _).mono ?_
  rintro e w1 ⟨rfl, rfl⟩
  go_wp2_with fail
  refine (HR.out _).mono ?_
  rintro e w1 ⟨rfl, rfl⟩
  go_wp2
  go_ret
  exact ⟨rfl, rfl⟩
set_option maxHeartbeats 800000 in
theorem rmorton_any (c r : Nat) (w : World) (hn : c < 256) (hr : r < 256) :
    Calls Try.prog 62 #[.int .i64 c, .int .i64 r] w fun e w' => e = .returned (.int .i64 (moS c r)) ∧ w = w' := by
  go_enter Try.func62, Try.ntmps62
  go_wp2_with fail
  go_loopw [5, 6] (fun s i wr => w = wr ∧ ∃ k : Nat, k ≤ 10 ∧ i = .int .i64 k ∧ s = .int .i64 (moF c r k : Nat)) (fun _ i _ => 10 - (intOf i).toNat)
  case atStart => exact ⟨rfl, 0, by omega, rfl, rfl⟩
  case round =>
    obtain ⟨rfl, k, hk, rfl, rfl⟩ := hrel
    by_cases hlt : k < 10
    · have d1 : ((k : Int) < 10) = True := eq_true (by omega)
      have q1 : IntKind.i64.wrap ((k : Int) + 1) = (k : Int) + 1 := IntWalk.i64_in _ (by omega)
      have q2 : IntKind.i64.wrap (2 * (k : Int)) = 2 * (k : Int) := IntWalk.i64_in _ (by omega)
      have q3 : IntKind.i64.wrap (2 * (k : Int) + 1) = 2 * (k : Int) + 1 := IntWalk.i64_in _ (by omega)
      have hb := moF_lt c r k (by omega)
      have hp : 2 ^ (2 * k) ≤ 2 ^ 20 := Nat.pow_le_pow_right (by decide) (by omega)
      have p1 := bit_le (c / 2 ^ k) (2 * k) (by omega)
      have p2 := bit_le (r / 2 ^ k) (2 * k + 1) (by omega)
      have e : moF c r (k + 1) = moF c r k + c / 2 ^ k % 2 * 2 ^ (2 * k) + r / 2 ^ k % 2 * 2 ^ (2 * k + 1) := rfl
      have HS := Lib.hid (show wrap64 (wrap64 ((moF c r k : Int) + wrap64 (bits BinOp.and IntKind.i64 ((c : Int) / 2 ^ k) 1 * 2 ^ (2 * k))) + wrap64 (bits BinOp.and IntKind.i64 ((r : Int) / 2 ^ k) 1 * 2 ^ (2 * k + 1))) = ((moF c r (k + 1) : Nat) : Int) from by
        rw [bit_run c k hn, bit_run r k hr, wrap_bit (c / 2 ^ k) (2 * k) (by omega), wrap_bit (r / 2 ^ k) (2 * k + 1) (by omega), e]
        generalize c / 2 ^ k % 2 * 2 ^ (2 * k) = x at *
        generalize r / 2 ^ k % 2 * 2 ^ (2 * k + 1) = y at *
        rw [IntWalk.wrap64_in ((moF c r k : Int) + (x : Int)) (by omega), IntWalk.wrap64_in _ (by omega)]
        push_cast; rfl)
      clear hb hp p1 p2 e
      go_wp2
      go_roundw
      case rel => exact ⟨by trivial, k + 1, by omega, by go_num, by rw [HS.out]⟩
      case measure => simp [intOf]; omega
    · obtain rfl : k = 10 := by omega
      go_wp2
      go_ret
      exact ⟨rfl, rfl⟩
/-! ## both codes are one on the cells of a page; they tell the cells apart -/
theorem mo_eq : ∀ c, c < 256 → ∀ r, r < 256 / (c + 1) → moT c r = moS c r := by decide +kernel
def unF (m : Nat) : Nat → Nat
  | 0 => 0
  | k + 1 => unF m k + m / 4 ^ k % 2 * 2 ^ k
theorem mo_un : ∀ c, c < 256 → ∀ r, r < 256 / (c + 1) → unF (moS c r) 8 = c ∧ unF (moS c r / 2) 8 = r := by decide +kernel
theorem mo_inj {c r c' r' : Nat} (h1 : (c + 1) * (r + 1) ≤ 256) (h2 : (c' + 1) * (r' + 1) ≤ 256) (h : moS c r = moS c' r') : c = c' ∧ r = r' := by
  have a1 : r < 256 / (c + 1) := by rw [Nat.lt_iff_add_one_le, Nat.le_div_iff_mul_le (by omega), Nat.mul_comm]; exact h1
  have a2 : r' < 256 / (c' + 1) := by rw [Nat.lt_iff_add_one_le, Nat.le_div_iff_mul_le (by omega), Nat.mul_comm]; exact h2
  have b1 : c < 256 := by
    have := Nat.mul_le_mul_left (c + 1) (show 1 ≤ r + 1 by omega)
    omega
  have b2 : c' < 256 := by
    have := Nat.mul_le_mul_left (c' + 1) (show 1 ≤ r' + 1 by omega)
    omega
  obtain ⟨e1, e2⟩ := mo_un c b1 r a1
  obtain ⟨e3, e4⟩ := mo_un c' b2 r' a2
  rw [h] at e1 e2
  exact ⟨e1.symm.trans e3, e2.symm.trans e4⟩
end Go.Proofs.Ytefdheoalonbaaa
