/- The order of Hilbert takes every tile once. No program stands here. -/
import Derived.Test.YtefdheoalonbaaaOrds
import Derived.Test.YtefdheoalonbaaaHilO
set_option linter.unusedVariables false
set_option linter.unusedSimpArgs false
namespace Go.Proofs.Ytefdheoalonbaaa
open Go.RowKit Go.Par

theorem two_pos (k : Nat) : 1 ≤ (2 : Int) ^ k := by
  induction k with
  | zero => decide
  | succ k ih => rw [Int.pow_succ]; omega
theorem hilF_mem : ∀ (k : Nat) (x y : Int), 0 ≤ x → x < 2 ^ k → 0 ≤ y → y < 2 ^ k → (x, y) ∈ hilF k
  | 0, x, y, h1, h2, h3, h4 => by
    have e1 : (2 : Int) ^ 0 = 1 := rfl
    rw [e1] at h2 h4
    have : x = 0 := by omega
    have : y = 0 := by omega
    subst x y
    simp [hilF]
  | k + 1, x, y, h1, h2, h3, h4 => by
    have e : (2 : Int) ^ (k + 1) = 2 * 2 ^ k := by rw [Int.pow_succ]; omega
    have ih := hilF_mem k
    rw [e] at h2 h4
    simp only [hilF, List.mem_append, List.mem_map]
    generalize (2 : Int) ^ k = n at *
    by_cases hx : x < n
    · by_cases hy : y < n
      · exact .inl (.inl (.inl ⟨(y, x), ih y x (by omega) (by omega) (by omega) (by omega), rfl⟩))
      · exact .inl (.inl (.inr ⟨(x, y - n), ih x (y - n) (by omega) (by omega) (by omega) (by omega), by simp⟩))
    · by_cases hy : y < n
      · refine .inr ⟨(n - 1 - y, 2 * n - 1 - x), ih _ _ (by omega) (by omega) (by omega) (by omega), ?_⟩
        simp only [Prod.mk.injEq]; omega
      · exact .inl (.inr ⟨(x - n, y - n), ih _ _ (by omega) (by omega) (by omega) (by omega), by simp⟩)
theorem nodup_map {α β : Type} {f : α → β} {l : List α} (h : l.Nodup) (hf : ∀ a b, f a = f b → a = b) : (l.map f).Nodup := by
  rw [List.Nodup, List.pairwise_map]
  exact List.Pairwise.imp (fun {a b} hab e => hab (hf a b e)) h
theorem hilF_nodup : ∀ k, (hilF k).Nodup
  | 0 => by simp [hilF]
  | k + 1 => by
    have ih := hilF_nodup k
    have bd := hilF_bd k
    have n1 := two_pos k
    simp only [hilF]
    generalize (2 : Int) ^ k = n at *
    rw [List.nodup_append, List.nodup_append, List.nodup_append]
    refine ⟨⟨⟨nodup_map ih ?_, nodup_map ih ?_, ?_⟩, nodup_map ih ?_, ?_⟩, nodup_map ih ?_, ?_⟩
    · rintro ⟨a, b⟩ ⟨c, d⟩ h; simp only [Prod.mk.injEq] at *; omega
    · rintro ⟨a, b⟩ ⟨c, d⟩ h; simp only [Prod.mk.injEq] at *; omega
    · intro p hp q hq
      obtain ⟨u, hu, rfl⟩ := List.mem_map.1 hp
      obtain ⟨v, hv, rfl⟩ := List.mem_map.1 hq
      have := bd u hu; have := bd v hv
      intro h; simp only [Prod.mk.injEq] at h; omega
    · rintro ⟨a, b⟩ ⟨c, d⟩ h; simp only [Prod.mk.injEq] at *; omega
    · intro p hp q hq
      obtain ⟨v, hv, rfl⟩ := List.mem_map.1 hq
      have := bd v hv
      rcases List.mem_append.1 hp with hp | hp <;> (obtain ⟨u, hu, rfl⟩ := List.mem_map.1 hp; have := bd u hu; intro h; simp only [Prod.mk.injEq] at h; omega)
    · rintro ⟨a, b⟩ ⟨c, d⟩ h; simp only [Prod.mk.injEq] at *; omega
    · intro p hp q hq
      obtain ⟨v, hv, rfl⟩ := List.mem_map.1 hq
      have := bd v hv
      rcases List.mem_append.1 hp with hp | hp
      · rcases List.mem_append.1 hp with hp | hp <;> (obtain ⟨u, hu, rfl⟩ := List.mem_map.1 hp; have := bd u hu; intro h; simp only [Prod.mk.injEq] at h; omega)
      · obtain ⟨u, hu, rfl⟩ := List.mem_map.1 hp; have := bd u hu; intro h; simp only [Prod.mk.injEq] at h; omega
theorem hilT_perm {C R K : Nat} (hC : (C : Int) ≤ 2 ^ K) (hR : (R : Int) ≤ 2 ^ K) : (hilT C R (hilF K)).Perm ((List.range (C * R)).map fun (k : Nat) => (k : Int)) := by
  have hbd := hilF_bd K
  have hmem := hilF_mem K
  have hnd := hilF_nodup K
  refine (List.perm_ext_iff_of_nodup ?_ ?_).2 fun a => ?_
  · unfold hilT
    have hf := hnd.sublist (List.filter_sublist (p := fun q : C2 => decide (q.1 < C) && decide (q.2 < R)))
    rw [List.Nodup, List.pairwise_map]
    refine List.Pairwise.imp_of_mem ?_ hf
    intro p q hp hq hpq e
    obtain ⟨hp1, hp2⟩ := List.mem_filter.1 hp
    obtain ⟨hq1, hq2⟩ := List.mem_filter.1 hq
    simp only [Bool.and_eq_true, decide_eq_true_eq] at hp2 hq2
    have b1 := hbd p hp1
    have b2 := hbd q hq1
    apply hpq
    obtain ⟨x, y⟩ := p
    obtain ⟨x', y'⟩ := q
    have e' : y * (C : Int) + x = y' * (C : Int) + x' := e
    clear e
    dsimp only at *
    have hy : y = y' := by
      rcases Int.lt_trichotomy y y' with h | h | h
      · have := Int.mul_le_mul_of_nonneg_right (show y + 1 ≤ y' by omega) (show (0 : Int) ≤ C by omega)
        rw [Int.add_mul, Int.one_mul] at this; omega
      · exact h
      · have := Int.mul_le_mul_of_nonneg_right (show y' + 1 ≤ y by omega) (show (0 : Int) ≤ C by omega)
        rw [Int.add_mul, Int.one_mul] at this; omega
    subst hy
    have hx : x = x' := by omega
    rw [hx]
  · exact nodup_map List.nodup_range (fun a b h => by omega)
  · unfold hilT
    simp only [List.mem_map, List.mem_filter, Bool.and_eq_true, decide_eq_true_eq, List.mem_range]
    constructor
    · rintro ⟨⟨x, y⟩, ⟨h1, h2, h3⟩, rfl⟩
      have b := hbd _ h1
      dsimp only at *
      have m1 := Int.mul_nonneg b.2.2.1 (show (0 : Int) ≤ C by omega)
      have m2 := Int.mul_le_mul_of_nonneg_right (show y + 1 ≤ R by omega) (show (0 : Int) ≤ C by omega)
      rw [Int.add_mul, Int.one_mul] at m2
      have e : ((C * R : Nat) : Int) = (R : Int) * (C : Int) := by rw [Int.natCast_mul, Int.mul_comm]
      exact ⟨(y * C + x).toNat, by omega, by omega⟩
    · rintro ⟨k, hk, rfl⟩
      have hC0 : 0 < C := by
        rcases Nat.eq_zero_or_pos C with h | h
        · subst h; simp at hk
        · exact h
      have e1 := Nat.div_add_mod k C
      have e2 := Nat.mod_lt k hC0
      have e3 : k / C < R := Nat.div_lt_of_lt_mul hk
      generalize k % C = v at *
      generalize k / C = u at *
      refine ⟨((v : Int), (u : Int)), ⟨hmem _ _ (by omega) (by omega) (by omega) (by omega), by dsimp only; omega, by dsimp only; omega⟩, ?_⟩
      dsimp only
      rw [← e1, ← Int.natCast_mul, Nat.mul_comm]
      push_cast
      omega
theorem ordK_ge {M : Nat} (h : M ≤ 256) : M ≤ 2 ^ ordK M := by
  unfold ordK
  cases hf : (List.range 9).find? (fun k => decide (M ≤ 2 ^ k)) with
  | some k =>
    have := List.find?_some hf
    simpa using this
  | none =>
    have := List.find?_eq_none.1 hf 8 (by simp)
    simp at this
    omega
theorem hilOrd_perm {r : R4} {w h : Int} (hv : validT r w h = true) : (hilOrd r w h).Perm ((List.range (allT r w h).length).map fun (k : Nat) => (k : Int)) := by
  obtain ⟨f1, f2, f3, f4, f5, f6, f7, f8⟩ := dims hv
  rw [allT_length hv]
  unfold hilOrd
  rw [hv, if_pos rfl]
  generalize timesS (r.2.2.1 - r.1) w = Ci at *
  generalize timesS (r.2.2.2 - r.2.1) h = Ri at *
  obtain ⟨C, rfl⟩ : ∃ C : Nat, Ci = C := ⟨Ci.toNat, by omega⟩
  obtain ⟨R, rfl⟩ : ∃ R : Nat, Ri = R := ⟨Ri.toNat, by omega⟩
  have hm := ordK_ge (M := (max (C : Int) (R : Int)).toNat) (by omega)
  generalize ordK (max (C : Int) (R : Int)).toNat = K at *
  rw [Int.toNat_natCast, Int.toNat_natCast, Nat.mul_comm]
  have e : ((2 ^ K : Nat) : Int) = (2 : Int) ^ K := Int.natCast_pow 2 K
  have h1 : (C : Int) ≤ ((2 ^ K : Nat) : Int) := by omega
  have h2 : (R : Int) ≤ ((2 ^ K : Nat) : Int) := by omega
  rw [e] at h1 h2
  exact hilT_perm h1 h2
end Go.Proofs.Ytefdheoalonbaaa
