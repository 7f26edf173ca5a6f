/- An argument that is a slice of polylines, opened. -/
import Derived.Test.YthfeamlioiaebaaOpen
import Derived.Test.YthfeamlioiaebaaFrom2
set_option linter.unusedVariables false
set_option linter.unusedSimpArgs false
namespace Go.Proofs.Ythfeamlioiaebaa
open Go.ChangeShapes Go.WideShapes Go.ChangeAt Go.RowKit Go.Par Go.Deep Go.Joins

theorem cellsPoly : Try.prog.cellsOf 50 = 2 := by kernel_rfl
theorem bytesPoly : Try.prog.bytesOf 50 = 32 := by kernel_rfl
section
variable {H : Type} {enc : TypeId × Value → H} {w : World} {base : Nat} {spare : Nat → Bool} {held : Bool}
def Polys (w : World) (v : Value) (L : List (List P2)) : Prop := ∃ A c, v = .slice A L.length c ∧ L.length ≤ c ∧ L.length ≤ 17592186044416 ∧ PolysAt w A L
theorem polys_of_trod {fuel : Nat} {v : Value} {x : DataW H × List MemPlace} (h : DataW.trod enc Try.prog w base spare held fuel 48 [v] = some x)
    (hs : ∀ n ∈ x.1.weights Try.prog 48, n ≤ reachBytes) : ∃ L, Polys w v L := by
  rcases open_slice_pairs Try.underlying48 Try.underlying50 cellsPoly rfl rfl (by kernel_rfl) (by kernel_rfl) h with ⟨hcs, hx⟩ | ⟨a, len, cap, m, n, V0, V1, D0, D1, P0, P1, hcs, hb, hl, hm, hmm, hx, hi⟩
  · injection hcs with e
    subst e
    exact ⟨[], none, 0, rfl, Nat.le_refl _, by decide, fun h => absurd rfl h⟩
  · injection hcs with e
    subst e
    have hlm : len ≤ m := by rw [hmm]; split <;> omega
    have hsz := hs ((len + (m - len)) * 32) (by rw [hx]; simp [DataW.weights, Try.underlying48, bytesPoly])
    have hlen : len ≤ 17592186044416 := by simp only [reachBytes] at hsz; omega
    have each : ∀ i, i < len → ∃ l, Pts w (V0 i) l := fun i hi' => by
      have hin : ∀ k ∈ (D0 i).weights Try.prog 38, k ≤ reachBytes := fun k hk => hs k (by
        rw [hx]
        simp only [DataW.weights, Try.underlying48, List.mem_cons, List.mem_append]
        refine .inr (.inl (weightsAll_mem (List.mem_map.2 ⟨i, List.mem_range.2 hi', rfl⟩) ?_))
        simp only [DataW.weights, Try.underlying50, DataW.weightsEach, List.map_cons, List.map_nil, List.mem_append]
        exact .inl hk)
      exact pts_of_trod (hi i (by omega)).2.2.1 hin
    obtain ⟨f, hf⟩ := choose_lt (α := List P2) (p := fun i l => Pts w (V0 i) l) each
    have hl' : ((List.range len).map f).length = len := by simp
    refine ⟨(List.range len).map f, some a, cap, by rw [hl'], by rw [hl']; exact hl, by rw [hl']; exact hlen, fun hne => ?_⟩
    have h0 : 0 < len := by
      rcases Nat.eq_zero_or_pos len with h | h
      · subst h; exact absurd rfl hne
      · exact h
    obtain ⟨b, o, rfl⟩ := addr_plain (by have := (hi 0 (by omega)).1; rw [Nat.zero_mul] at this; exact this)
    refine ⟨b, o, rfl, fun i p hp => ?_⟩
    have hil : i < len := by have := (List.getElem?_eq_some_iff.1 hp).1; omega
    rw [List.getElem?_map, List.getElem?_range hil] at hp
    simp only [Option.map_some, Option.some.injEq] at hp
    subst hp
    obtain ⟨c0, c1, t0, t1⟩ := hi i (by omega)
    obtain ⟨q, e1, _⟩ := DataW.trod_bool Try.underlying4 t1
    simp only [List.cons.injEq, and_true] at e1
    rw [e1] at c1
    rw [Addr.add_lit] at c0 c1
    exact ⟨V0 i, q, c0, by rw [Nat.add_assoc]; exact c1, hf i hil⟩
end
end Go.Proofs.Ythfeamlioiaebaa
