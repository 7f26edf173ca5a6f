/- Components of the program: how its flood stands; what turns in the walk's memory. -/
import Derived.Test.YtkjpcjmbhpfelaaRgCompP
set_option linter.unusedVariables false
set_option linter.unusedSimpArgs false
namespace Go.Reg
open Go.Proofs.Ytkjpcjmbhpfelaa Go.Par
theorem SeenTo.more {L : List R4} {i : Nat} {J : List Nat} {n q : Nat} (h : SeenTo L i J n) : SeenTo L i (J ++ [q]) n := h.imp id fun h => List.mem_append_left _ h
theorem Adj.lt2 {L : List R4} {a n : Nat} (h : Adj L a n) : n < L.length := by
  obtain ⟨_, _, _, h2, _⟩ := h
  exact (List.getElem?_eq_some_iff.1 h2).1
structure FloodTo (L : List R4) (i : Nat) (J : List Nat) (P : List R4) (seen : List Bool) (t q : Nat) : Prop where
  part : PartOf L J P
  flood : Flood L i J
  seen : SeenOk L i J seen
  done : ∀ (t' a : Nat), t' < t → J[t']? = some a → ∀ n, Adj L a n → SeenTo L i J n
  row : ∀ a, J[t]? = some a → ∀ n, n < q → Adj L a n → SeenTo L i J n
theorem FloodTo.start {L : List R4} {i : Nat} {r : R4} {seen : List Bool} (h : SeenOk L i [] seen) (hi : seen[i]? = some false) (hr : L[i]? = some r) : FloodTo L i [i] [r] (seen.set i true) 0 0 := by
  obtain ⟨h1, h2, _⟩ := h.first hi (List.getElem?_eq_some_iff.1 hr).1
  exact ⟨PartOf.one hr, h1, h2, fun t' a h => by omega, fun a _ n h => by omega⟩
theorem FloodTo.skip {L : List R4} {i : Nat} {J : List Nat} {P : List R4} {seen : List Bool} {t q : Nat} (h : FloodTo L i J P seen t q) (hq : seen[q]? = some true) : FloodTo L i J P seen t (q + 1) :=
  ⟨h.part, h.flood, h.seen, h.done, fun a ha n hn had => by
    by_cases e : n = q
    · subst e; exact ((h.seen.2 n).1 hq).2
    · exact h.row a ha n (by omega) had⟩
theorem FloodTo.far {L : List R4} {i : Nat} {J : List Nat} {P : List R4} {seen : List Bool} {t q : Nat} {p r : R4} (h : FloodTo L i J P seen t q) (hp : P[t]? = some p) (hr : L[q]? = some r) (hn : touchS p r = false) : FloodTo L i J P seen t (q + 1) :=
  ⟨h.part, h.flood, h.seen, h.done, fun a ha n hlt had => by
    by_cases e : n = q
    · subst e
      obtain ⟨u, v, k1, k2, k3⟩ := had
      obtain ⟨p', m1, m2⟩ := h.part.2 t a ha
      rw [hp] at m2; injection m2 with m2; subst m2
      rw [m1] at k1; injection k1 with k1; subst k1
      rw [hr] at k2; injection k2 with k2; subst k2
      rw [hn] at k3; cases k3
    · exact h.row a ha n (by omega) had⟩
theorem FloodTo.take {L : List R4} {i : Nat} {J : List Nat} {P : List R4} {seen : List Bool} {t q : Nat} {p r : R4} (h : FloodTo L i J P seen t q) (hs : seen[q]? = some false) (hp : P[t]? = some p) (hr : L[q]? = some r) (hn : touchS p r = true) :
    FloodTo L i (J ++ [q]) (P ++ [r]) (seen.set q true) t (q + 1) := by
  have htl : t < J.length := by rw [← h.part.1]; exact (List.getElem?_eq_some_iff.1 hp).1
  have hql := (List.getElem?_eq_some_iff.1 hr).1
  obtain ⟨a, ha⟩ : ∃ a, J[t]? = some a := ⟨_, List.getElem?_eq_getElem htl⟩
  obtain ⟨p', m1, m2⟩ := h.part.2 t a ha
  rw [hp] at m2; injection m2 with m2; subst m2
  have hnot : q ∉ J := fun hj => h.seen.unseen hs (.inr hj)
  refine ⟨h.part.snoc hr, h.flood.snoc (List.mem_of_getElem? ha) ⟨p, r, m1, hr, hn⟩ hnot, h.seen.take hql, fun t' b hlt hb n had => ?_, fun b hb n hlt had => ?_⟩
  · rw [List.getElem?_append_left (by omega)] at hb
    exact (h.done t' b hlt hb n had).more
  · rw [List.getElem?_append_left htl] at hb
    by_cases e : n = q
    · subst e; exact .inr (by simp)
    · exact (h.row b hb n (by omega) had).more
theorem FloodTo.next {L : List R4} {i : Nat} {J : List Nat} {P : List R4} {seen : List Bool} {t q : Nat} (h : FloodTo L i J P seen t q) (hq : L.length ≤ q) : FloodTo L i J P seen (t + 1) 0 :=
  ⟨h.part, h.flood, h.seen, fun t' a hlt ha n had => by
    by_cases e : t' = t
    · subst e; exact h.row a ha n (by have := had.lt2; omega) had
    · exact h.done t' a (by omega) ha n had, fun a _ n hn => by omega⟩
theorem FloodTo.end {L : List R4} {i : Nat} {J : List Nat} {P : List R4} {seen : List Bool} {t q : Nat} (h : FloodTo L i J P seen t q) (ht : P.length ≤ t) : (∀ j, IConn L i j ↔ j ∈ J) ∧ CompOf L i P ∧ SeenOk L (i + 1) [] seen ∧ ∀ r ∈ P, r ∈ L := by
  have hJ : ∀ j, IConn L i j ↔ j ∈ J := h.flood.end fun j hj n had => by
    obtain ⟨t', ht'⟩ := List.mem_iff_getElem?.1 hj
    have := (List.getElem?_eq_some_iff.1 ht').1
    exact h.done t' j (by rw [h.part.1] at ht; omega) ht' n had
  refine ⟨hJ, h.part.comp hJ, h.seen.last hJ, fun r hr => ?_⟩
  obtain ⟨j, _, hj⟩ := h.part.mem.1 hr
  exact List.mem_of_getElem? hj
theorem FloodTo.len {L : List R4} {i : Nat} {J : List Nat} {P : List R4} {seen : List Bool} {t q : Nat} (h : FloodTo L i J P seen t q) : P.length ≤ L.length ∧ seen.length = L.length := ⟨by rw [h.part.1]; exact h.flood.le, h.seen.1⟩
end Go.Reg
namespace Go.Proofs.Ytkjpcjmbhpfelaa
open Go.RowKit Go.Par Go.Reg
theorem RowsBox.but {w w' : World} {g : Nat} {cs : Array Value} {ss : List (Option Addr × Nat × Nat)} {ls : List (List R4)} (h : RowsBox w ss ls) (hb : Box w g 4 cs) (k : But g w w') : RowsBox w' ss ls :=
  ⟨h.1, fun j l hl => by
    obtain ⟨A, n, c, h1, h2, h3, h4⟩ := h.2 j l hl
    refine ⟨A, n, c, h1, h2, h3, fun hne => ?_⟩
    obtain ⟨g', cur, e, k2, k3⟩ := h4 hne
    refine ⟨g', cur, e, k.box k2 (fun e => ?_), k3⟩
    subst e
    have := k2.symm.trans hb
    simp only [Option.some.injEq, Obj.cells.injEq] at this
    exact absurd this.2.1 (by decide)⟩
theorem but_grown {P : Program} {α : Type} {E : EL P α} {g B : Nat} {w0 w w' : World} {v : Value} {l : List α} (h : But g w0 w) (hown : E.Own w B v l) (hb : w0.heap.size ≤ B) (hg : w.grownBy w' v.ownBlock) : But g w0 w' :=
  ⟨hg.os.trans h.os, hg.tape.trans h.tape, hg.output.trans h.output, Nat.le_trans h.size hg.size, fun k hk hne => (hg.block k (Nat.lt_of_lt_of_le hk h.size) (fun e => by
    rcases hown.block with e' | ⟨g', e', hle⟩
    · rw [e'] at e; cases e
    · rw [e'] at e; injection e with e; omega)).trans (h.block k hk hne)⟩
end Go.Proofs.Ytkjpcjmbhpfelaa
