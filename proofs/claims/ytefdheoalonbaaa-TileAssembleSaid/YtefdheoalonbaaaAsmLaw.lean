/- Laws of assembling bitmaps. No program stands here. -/
import Derived.Test.YtefdheoalonbaaaBmLaw
set_option linter.unusedVariables false
set_option linter.unusedSimpArgs false
namespace Go.Proofs.Ytefdheoalonbaaa
open Go.RowKit Go.Par

/-! ## assembling -/
theorem coords_inj {r : R4} (hc : rectCanonS r = r) {i j : Nat} {p : XY} (h1 : (coordsR r)[i]? = some p) (h2 : (coordsR r)[j]? = some p) : i = j := by
  have e1 := (coords_pix hc h1).2
  have e2 := (coords_pix hc h2).2
  rw [e1] at e2
  exact_mod_cast e2
theorem coords_nodup {r : R4} (hc : rectCanonS r = r) : (coordsR r).Nodup := by
  refine List.pairwise_iff_getElem.2 fun i j hi hj hij e => ?_
  have h1 := List.getElem?_eq_getElem hi
  have h2 := List.getElem?_eq_getElem hj
  rw [← e] at h2
  exact absurd (coords_inj hc h1 h2) (by omega)
abbrev AS := List P4 × List Int
abbrev BXY := BM × XY
def asmStep (page : R4) (st : AS) (e : BXY) : AS :=
  (st.1.set (pixS page e.2.1 e.2.2).toNat (pixAt e.1 e.2.1 e.2.2), st.2.set (pixS page e.2.1 e.2.2).toNat (st.2.getD (pixS page e.2.1 e.2.2).toNat 0 + 1))
def asmF (page : R4) (st : AS) (l : List BXY) : AS := l.foldl (asmStep page) st
theorem asmF_append (page : R4) (st : AS) (l m : List BXY) : asmF page st (l ++ m) = asmF page (asmF page st l) m := by unfold asmF; rw [List.foldl_append]
theorem asmF_snoc (page : R4) (st : AS) (l : List BXY) (e : BXY) : asmF page st (l ++ [e]) = asmStep page (asmF page st l) e := by rw [asmF_append]; rfl
theorem asmF_len1 (page : R4) (st : AS) (l : List BXY) : (asmF page st l).1.length = st.1.length := by
  induction l generalizing st with
  | nil => rfl
  | cons e l ih => show (asmF page (asmStep page st e) l).1.length = _; rw [ih]; simp [asmStep]
theorem asmF_len2 (page : R4) (st : AS) (l : List BXY) : (asmF page st l).2.length = st.2.length := by
  induction l generalizing st with
  | nil => rfl
  | cons e l ih => show (asmF page (asmStep page st e) l).2.length = _; rw [ih]; simp [asmStep]
def ofB (b : BM) (l : List XY) : List BXY := l.map fun p => (b, p)
def flatB (page : R4) (l : List BM) : List BXY := l.flatMap fun b => ofB b (coordsR (interS page b.1))
theorem flatB_snoc (page : R4) (l : List BM) (b : BM) : flatB page (l ++ [b]) = flatB page l ++ ofB b (coordsR (interS page b.1)) := by
  unfold flatB; rw [List.flatMap_append]; simp
/-- one bitmap laid over what is there -/
theorem asm_one {page : R4} (hc : rectCanonS page = page) (b : BM) {k : Nat} {p : XY} (hk : (coordsR page)[k]? = some p) : ∀ (cs : List XY), (∀ q ∈ cs, rectHasS page q.1 q.2 = true) → cs.Nodup → ∀ (st : AS) (x : P4) (n : Int), st.1[k]? = some x → st.2[k]? = some n →
    (asmF page st (ofB b cs)).1[k]? = some (if p ∈ cs then pixAt b p.1 p.2 else x) ∧ (asmF page st (ofB b cs)).2[k]? = some (if p ∈ cs then n + 1 else n) := by
  intro cs
  induction cs with
  | nil => intro _ _ st x n h1 h2; exact ⟨h1, h2⟩
  | cons q cs ih =>
    intro hin hnd st x n h1 h2
    obtain ⟨hq, hnd2⟩ := List.nodup_cons.1 hnd
    have hl1 := (List.getElem?_eq_some_iff.1 h1).1
    have hl2 := (List.getElem?_eq_some_iff.1 h2).1
    obtain ⟨e1, e2⟩ := coords_pix hc hk
    have hqp := hin q (List.mem_cons_self ..)
    have step : asmF page st (ofB b (q :: cs)) = asmF page (asmStep page st (b, q)) (ofB b cs) := rfl
    rw [step]
    by_cases hpq : p = q
    · subst hpq
      have e3 : (pixS page p.1 p.2).toNat = k := by omega
      have := ih (fun q hq => hin q (List.mem_cons_of_mem _ hq)) hnd2 (asmStep page st (b, p)) (pixAt b p.1 p.2) (n + 1) (by unfold asmStep; dsimp only; rw [e3, List.getElem?_set_self hl1]) (by unfold asmStep; dsimp only; rw [e3, List.getElem?_set_self hl2, List.getD_eq_getElem?_getD, h2]; rfl)
      rw [if_neg hq, if_neg hq] at this
      rw [if_pos (List.mem_cons_self ..), if_pos (List.mem_cons_self ..)]
      exact this
    · have e3 : (pixS page q.1 q.2).toNat ≠ k := fun e => hpq (by
        have := pix_get hqp
        rw [e, hk] at this
        injection this)
      have := ih (fun q hq => hin q (List.mem_cons_of_mem _ hq)) hnd2 (asmStep page st (b, q)) x n (by unfold asmStep; dsimp only; rw [List.getElem?_set_ne e3]; exact h1) (by unfold asmStep; dsimp only; rw [List.getElem?_set_ne e3]; exact h2)
      have hm : p ∈ q :: cs ↔ p ∈ cs := by rw [List.mem_cons]; exact ⟨fun h => h.resolve_left hpq, .inr⟩
      simp only [hm]
      exact this
def cntAt (l : List BM) (p : XY) : Int := ((l.filter fun b => rectHasS b.1 p.1 p.2).length : Nat)
def lastAt (l : List BM) (p : XY) : P4 := l.foldl (fun x b => if rectHasS b.1 p.1 p.2 then pixAt b p.1 p.2 else x) (0, 0, 0, 0)
theorem cntAt_snoc (l : List BM) (b : BM) (p : XY) : cntAt (l ++ [b]) p = cntAt l p + if rectHasS b.1 p.1 p.2 then 1 else 0 := by
  unfold cntAt
  rw [List.filter_append, List.length_append]
  cases h : rectHasS b.1 p.1 p.2 <;> simp [h]
theorem lastAt_snoc (l : List BM) (b : BM) (p : XY) : lastAt (l ++ [b]) p = if rectHasS b.1 p.1 p.2 then pixAt b p.1 p.2 else lastAt l p := by
  unfold lastAt
  rw [List.foldl_append]; rfl
theorem asm_pt {page : R4} (hc : rectCanonS page = page) {k : Nat} {p : XY} (hk : (coordsR page)[k]? = some p) {st : AS} (h1 : st.1[k]? = some (0, 0, 0, 0)) (h2 : st.2[k]? = some 0) (n : Nat) : ∀ (l : List BM), l.length = n →
    (asmF page st (flatB page l)).1[k]? = some (lastAt l p) ∧ (asmF page st (flatB page l)).2[k]? = some (cntAt l p) := by
  induction n with
  | zero => intro l hl; obtain rfl := List.eq_nil_of_length_eq_zero hl; exact ⟨h1, h2⟩
  | succ n ih =>
    intro l hl
    obtain ⟨l, b, rfl⟩ : ∃ m b, l = m ++ [b] := ⟨l.dropLast, l.getLast (fun e => by rw [e] at hl; simp at hl), (List.dropLast_concat_getLast _).symm⟩
    obtain ⟨i1, i2⟩ := ih l (by simp at hl; exact hl)
    have hp := (coords_pix hc hk).1
    have hmem : p ∈ coordsR (interS page b.1) ↔ rectHasS b.1 p.1 p.2 = true := by rw [mem_coords (interS_canon _ _), has_inter, hp, Bool.true_and]
    have := asm_one hc b hk (coordsR (interS page b.1)) (fun q hq => by
      have := (mem_coords (interS_canon _ _)).1 hq
      rw [has_inter, Bool.and_eq_true] at this
      exact this.1) (coords_nodup (interS_canon _ _)) _ _ _ i1 i2
    simp only [hmem] at this
    rw [flatB_snoc, asmF_append, lastAt_snoc, cntAt_snoc]
    refine ⟨this.1, this.2.trans ?_⟩
    cases h : rectHasS b.1 p.1 p.2 <;> simp
/-- the outcome of assembling -/
def asmCode (page : R4) (l : List BM) : Int :=
  if (coordsR page).any (fun p => decide (cntAt l p = 0)) then 8 else if (coordsR page).any (fun p => decide (1 < cntAt l p)) then 7 else 0
def asmP (page : R4) (l : List BM) : List P4 := (coordsR page).map (lastAt l)
def asm0 (n : Nat) : AS := (List.replicate n (0, 0, 0, 0), List.replicate n 0)
theorem asm_all {page : R4} (hc : rectCanonS page = page) (l : List BM) : asmF page (asm0 (coordsR page).length) (flatB page l) = (asmP page l, (coordsR page).map (cntAt l)) := by
  have hp : ∀ k p, (coordsR page)[k]? = some p → _ := fun k p hk => asm_pt hc hk (st := asm0 (coordsR page).length) (by unfold asm0; dsimp only; rw [List.getElem?_replicate, if_pos (List.getElem?_eq_some_iff.1 hk).1]) (by unfold asm0; dsimp only; rw [List.getElem?_replicate, if_pos (List.getElem?_eq_some_iff.1 hk).1]) l.length l rfl
  refine Prod.ext ?_ ?_
  · refine List.ext_getElem? fun k => ?_
    unfold asmP
    rw [List.getElem?_map]
    cases hk : (coordsR page)[k]? with
    | some p => rw [(hp k p hk).1]; rfl
    | none =>
      rw [List.getElem?_eq_none_iff] at hk
      rw [List.getElem?_eq_none (by rw [asmF_len1]; unfold asm0; simpa using hk)]; rfl
  · refine List.ext_getElem? fun k => ?_
    rw [List.getElem?_map]
    cases hk : (coordsR page)[k]? with
    | some p => rw [(hp k p hk).2]; rfl
    | none =>
      rw [List.getElem?_eq_none_iff] at hk
      rw [List.getElem?_eq_none (by rw [asmF_len2]; unfold asm0; simpa using hk)]; rfl
theorem cntAt_le (l : List BM) (p : XY) : 0 ≤ cntAt l p ∧ cntAt l p ≤ l.length := by
  unfold cntAt
  have := List.length_filter_le (fun b : BM => rectHasS b.1 p.1 p.2) l
  omega
/-- one pixel laid: what is looked up and what comes of it -/
theorem asm_at {page : R4} (hc : rectCanonS page = page) (bs : List BM) (j : Nat) (b : BM) (hb : bmOk b = true) {m : Nat} {p : XY} (hm : (coordsR (interS page b.1))[m]? = some p) :
    ∃ (k k2 : Nat) (c : Int), pixS page p.1 p.2 = k ∧ pixS b.1 p.1 p.2 = k2 ∧ k < (coordsR page).length ∧ b.2[k2]? = some (pixAt b p.1 p.2) ∧ 0 ≤ c ∧ c ≤ j ∧
      (asmF page (asm0 (coordsR page).length) (flatB page (bs.take j) ++ ofB b ((coordsR (interS page b.1)).take m))).2[k]? = some c ∧
      asmF page (asm0 (coordsR page).length) (flatB page (bs.take j) ++ ofB b ((coordsR (interS page b.1)).take (m + 1))) =
        ((asmF page (asm0 (coordsR page).length) (flatB page (bs.take j) ++ ofB b ((coordsR (interS page b.1)).take m))).1.set k (pixAt b p.1 p.2),
         (asmF page (asm0 (coordsR page).length) (flatB page (bs.take j) ++ ofB b ((coordsR (interS page b.1)).take m))).2.set k (c + 1)) := by
  have hq := interS_canon page b.1
  have hh := (coords_pix hq hm).1
  rw [has_inter, Bool.and_eq_true] at hh
  obtain ⟨h1, h2⟩ := hh
  have hk := pix_get h1
  have hkl := (List.getElem?_eq_some_iff.1 hk).1
  have hk2 := pixAt_get hb h2
  have z1 : 0 ≤ pixS page p.1 p.2 := by
    obtain ⟨x1, x2, x3, x4, x5⟩ := canon_has.1 h1
    have := (pix_nat (r := page) (i := (p.1 - page.1).toNat) (j := (p.2 - page.2.1).toNat) x1 (by omega) (by omega)).2
    rw [show page.1 + ((p.1 - page.1).toNat : Int) = p.1 by omega, show page.2.1 + ((p.2 - page.2.1).toNat : Int) = p.2 by omega] at this
    omega
  have z2 : 0 ≤ pixS b.1 p.1 p.2 := by
    obtain ⟨x1, x2, x3, x4, x5⟩ := canon_has.1 h2
    have := (pix_nat (r := b.1) (i := (p.1 - b.1.1).toNat) (j := (p.2 - b.1.2.1).toNat) x1 (by omega) (by omega)).2
    rw [show b.1.1 + ((p.1 - b.1.1).toNat : Int) = p.1 by omega, show b.1.2.1 + ((p.2 - b.1.2.1).toNat : Int) = p.2 by omega] at this
    omega
  have hnd := coords_nodup hq
  have hpt := asm_pt hc hk (st := asm0 (coordsR page).length) (by unfold asm0; dsimp only; rw [List.getElem?_replicate, if_pos hkl]) (by unfold asm0; dsimp only; rw [List.getElem?_replicate, if_pos hkl]) (bs.take j).length (bs.take j) rfl
  have hnot : p ∉ (coordsR (interS page b.1)).take m := fun hin => by
    obtain ⟨i, hi⟩ := List.mem_iff_getElem?.1 hin
    rw [List.getElem?_take] at hi
    split at hi
    · have := coords_inj hq hi hm; omega
    · cases hi
  have hone := asm_one hc b hk ((coordsR (interS page b.1)).take m) (fun q hqm => by
    have := (mem_coords hq).1 (List.mem_of_mem_take hqm)
    rw [has_inter, Bool.and_eq_true] at this
    exact this.1) (hnd.sublist (List.take_sublist _ _)) _ _ _ hpt.1 hpt.2
  rw [if_neg hnot, if_neg hnot] at hone
  have hct := cntAt_le (bs.take j) p
  have hlen : (bs.take j).length ≤ j := by rw [List.length_take]; omega
  refine ⟨(pixS page p.1 p.2).toNat, (pixS b.1 p.1 p.2).toNat, cntAt (bs.take j) p, by omega, by omega, hkl, hk2, hct.1, by omega, by rw [asmF_append]; exact hone.2, ?_⟩
  have ht : (coordsR (interS page b.1)).take (m + 1) = (coordsR (interS page b.1)).take m ++ [p] := by rw [List.take_add_one, hm]; rfl
  have ho : ofB b ((coordsR (interS page b.1)).take m ++ [p]) = ofB b ((coordsR (interS page b.1)).take m) ++ [(b, p)] := by unfold ofB; rw [List.map_append]; rfl
  rw [ht, ho, ← List.append_assoc, asmF_snoc]
  unfold asmStep
  dsimp only
  rw [asmF_append, List.getD_eq_getElem?_getD, hone.2]
  rfl
theorem asm_row {page : R4} (bs : List BM) {j : Nat} {b : BM} (hj : bs[j]? = some b) : flatB page (bs.take (j + 1)) = flatB page (bs.take j) ++ ofB b (coordsR (interS page b.1)) := by
  rw [List.take_add_one, hj]
  exact flatB_snoc page _ b
theorem coords_at {r : R4} {i j : Nat} (hi : (i : Int) < r.2.2.1 - r.1) (hj : (j : Int) < r.2.2.2 - r.2.1) : (coordsR r)[j * (r.2.2.1 - r.1).toNat + i]? = some (r.1 + i, r.2.1 + j) := by
  unfold coordsR
  exact gridXY_get (by omega) (by omega)
end Go.Proofs.Ytefdheoalonbaaa
