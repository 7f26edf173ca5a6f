/- Order of tiles by Morton codes: plain. -/
import Derived.Test.YtefdheoalonbaaaMort
import Derived.Test.YtefdheoalonbaaaShuf
import Derived.Test.YtefdheoalonbaaaSortI
set_option linter.unusedVariables false
set_option linter.unusedSimpArgs false
namespace Go.Proofs.Ytefdheoalonbaaa

/-- the code of the i-th tile of a page with C columns, as the reference has it -/
def keyS (C i : Nat) : Nat := moS (i % C) (i / C)
def keyT (C i : Nat) : Nat := moT (i % C) (i / C)
theorem cell_in {C R i : Nat} (hC : 1 ≤ C) (hi : i < C * R) (h : C * R ≤ 256) : i % C < C ∧ i / C < R ∧ (i % C + 1) * (i / C + 1) ≤ 256 := by
  have h1 : i % C < C := Nat.mod_lt _ hC
  have h2 : i / C < R := Nat.div_lt_of_lt_mul hi
  have := Nat.mul_le_mul (show i % C + 1 ≤ C by omega) (show i / C + 1 ≤ R by omega)
  exact ⟨h1, h2, by omega⟩
theorem key_eq {C R i : Nat} (hC : 1 ≤ C) (hi : i < C * R) (h : C * R ≤ 256) : keyT C i = keyS C i := by
  obtain ⟨h1, h2, h3⟩ := cell_in hC hi h
  unfold keyT keyS
  have b1 : i % C < 256 := by
    have := Nat.mul_le_mul_left (i % C + 1) (Nat.le_add_left 1 (i / C))
    omega
  refine mo_eq _ b1 _ ?_
  rw [Nat.lt_iff_add_one_le, Nat.le_div_iff_mul_le (by omega), Nat.mul_comm]
  exact h3
theorem key_inj {C R i j : Nat} (hC : 1 ≤ C) (hi : i < C * R) (hj : j < C * R) (h : C * R ≤ 256) (he : keyS C i = keyS C j) : i = j := by
  obtain ⟨h1, h2, h3⟩ := cell_in hC hi h
  obtain ⟨k1, k2, k3⟩ := cell_in hC hj h
  obtain ⟨e1, e2⟩ := mo_inj h3 k3 he
  rw [← Nat.div_add_mod i C, ← Nat.div_add_mod j C, e1, e2]
/-- the place at which the reference lays i down -/
def atZ (C : Nat) (l : List Nat) (i : Nat) : Nat := l.findIdx fun x => !decide (keyS C x < keyS C i)
def insZ (C : Nat) (l : List Nat) (i : Nat) : List Nat := l.take (atZ C l i) ++ [i] ++ l.drop (atZ C l i)
def zF (C : Nat) : Nat → List Nat
  | 0 => []
  | n + 1 => insZ C (zF C n) n
theorem insZ_perm (C : Nat) (l : List Nat) (i : Nat) : (insZ C l i).Perm (l ++ [i]) := by
  unfold insZ
  rw [List.append_assoc]
  refine (List.Perm.append_left _ (List.perm_append_comm)).trans ?_
  rw [← List.append_assoc, List.take_append_drop]
theorem zF_perm (C : Nat) : ∀ n, (zF C n).Perm (List.range n)
  | 0 => List.Perm.refl _
  | n + 1 => by
    rw [List.range_succ]
    exact (insZ_perm C _ n).trans (List.Perm.append_right _ (zF_perm C n))
theorem zF_length (C n : Nat) : (zF C n).length = n := by rw [(zF_perm C n).length_eq, List.length_range]
theorem zF_mem {C n i : Nat} : i ∈ zF C n ↔ i < n := by rw [(zF_perm C n).mem_iff, List.mem_range]
theorem insZ_sorted {C : Nat} {l : List Nat} {i : Nat} (h : l.Pairwise fun a b => keyS C a ≤ keyS C b) : (insZ C l i).Pairwise fun a b => keyS C a ≤ keyS C b := by
  have hb : ∀ x ∈ l.take (atZ C l i), keyS C x < keyS C i := by
    intro x hx
    obtain ⟨k, hk⟩ := List.mem_iff_getElem?.1 hx
    rw [List.getElem?_take] at hk
    split at hk
    · next hlt =>
      have := List.not_of_lt_findIdx hlt
      obtain ⟨hl, e⟩ := List.getElem?_eq_some_iff.1 hk
      rw [e] at this
      simpa using this
    · cases hk
  have hd : ∀ x ∈ l.drop (atZ C l i), keyS C i ≤ keyS C x := by
    intro x hx
    by_cases hlt : atZ C l i < l.length
    · have h0 : keyS C i ≤ keyS C l[atZ C l i] := by
        have := List.findIdx_getElem (w := hlt)
        simp only [Bool.not_eq_true', decide_eq_false_iff_not, Nat.not_lt] at this
        exact this
      have hp : (l.drop (atZ C l i)).Pairwise fun a b => keyS C a ≤ keyS C b := h.sublist (List.drop_sublist _ _)
      rw [List.drop_eq_getElem_cons hlt] at hx hp
      rcases List.mem_cons.1 hx with rfl | hx
      · exact h0
      · exact Nat.le_trans h0 ((List.pairwise_cons.1 hp).1 x hx)
    · rw [List.drop_eq_nil_of_le (by omega)] at hx
      cases hx
  unfold insZ
  rw [List.append_assoc, List.pairwise_append]
  refine ⟨h.sublist (List.take_sublist _ _), ?_, fun a ha b hb' => ?_⟩
  · rw [List.singleton_append, List.pairwise_cons]
    exact ⟨hd, h.sublist (List.drop_sublist _ _)⟩
  · rw [List.singleton_append, List.mem_cons] at hb'
    have h1 := hb a ha
    rcases hb' with rfl | hb'
    · omega
    · have := hd b hb'
      omega
theorem zF_sorted (C : Nat) : ∀ n, (zF C n).Pairwise fun a b => keyS C a ≤ keyS C b
  | 0 => List.Pairwise.nil
  | n + 1 => insZ_sorted (zF_sorted C n)
/-- whatever is sorted by the codes is the reference's row -/
theorem z_unique {C R : Nat} {l : List F8} (hC : 1 ≤ C) (h : C * R ≤ 256) (hp : (l.map (·.val)).Perm (List.range (C * R))) (hs : l.Pairwise fun a b => ((keyT C a.val : Nat) : Int) ≤ ((keyT C b.val : Nat) : Int)) : l.map (·.val) = zF C (C * R) := by
  have hm : ∀ a ∈ l, a.val < C * R := fun a ha => by
    have : a.val ∈ l.map (·.val) := List.mem_map_of_mem ha
    rw [hp.mem_iff, List.mem_range] at this
    exact this
  refine List.Perm.eq_of_pairwise (le := fun a b => keyS C a ≤ keyS C b) ?_ ?_ (zF_sorted C _) (hp.trans (zF_perm C _).symm)
  · intro a b ha hb h1 h2
    rw [hp.mem_iff, List.mem_range] at ha
    rw [zF_mem] at hb
    exact key_inj hC ha hb h (by omega)
  · rw [List.pairwise_map]
    refine hs.imp_of_mem ?_
    intro a b ha hb hab
    rw [key_eq hC (hm a ha) h, key_eq hC (hm b hb) h] at hab
    omega
def natL (l : List Nat) : List Int := l.map fun (k : Nat) => (k : Int)
def zOrd (r : R4) (w h : Int) : List Int :=
  if validT r w h then natL (zF (timesS (r.2.2.1 - r.1) w).toNat ((timesS (r.2.2.1 - r.1) w).toNat * (timesS (r.2.2.2 - r.2.1) h).toNat)) else []
theorem iotaL_natL (n : Nat) : iotaL n = natL (List.range n) := rfl
def iotaF (n : Nat) : List F8 := (List.range n).map fun k => Fin.ofNat 256 k
theorem iotaF_of (n : Nat) (h : n ≤ 256) : ofF (iotaF n) = iotaL n := by
  unfold ofF iotaF iotaL
  rw [List.map_map]
  refine List.map_congr_left fun k hk => ?_
  rw [List.mem_range] at hk
  simp [Fin.ofNat, Nat.mod_eq_of_lt (show k < 256 by omega)]
theorem iotaF_val (n : Nat) (h : n ≤ 256) : (iotaF n).map (·.val) = List.range n := by
  unfold iotaF
  rw [List.map_map]
  refine (List.map_congr_left fun k hk => ?_).trans (List.map_id _)
  rw [List.mem_range] at hk
  simp [Fin.ofNat, Nat.mod_eq_of_lt (show k < 256 by omega)]
end Go.Proofs.Ytefdheoalonbaaa
