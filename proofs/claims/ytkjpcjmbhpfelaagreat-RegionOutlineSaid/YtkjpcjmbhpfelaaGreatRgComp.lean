/- Components: what touches, what is connected, by the program and by the reference. Plain law: no walk stands here. -/
import Derived.Test.YtkjpcjmbhpfelaaGreatRgLaw
set_option linter.unusedVariables false
set_option linter.unusedSimpArgs false
namespace Go.Reg
open Go.Proofs.YtkjpcjmbhpfelaaGreat

/-! ## components -/
def touchS (a b : R4) : Bool := (decide (a.2.2.2 = b.2.1) || decide (b.2.2.2 = a.2.1)) && decide (max a.1 b.1 < min a.2.2.1 b.2.2.1)
def adjS (a b : R4) : Bool := if a.2.2.2 = b.2.1 ∨ b.2.2.2 = a.2.1 then decide (max a.1 b.1 < min a.2.2.1 b.2.2.1) else if a.2.2.1 = b.1 ∨ b.2.2.1 = a.1 then decide (max a.2.1 b.2.1 < min a.2.2.2 b.2.2.2) else false
theorem touch_iff {a b : R4} : touchS a b = true ↔ (a.2.2.2 = b.2.1 ∨ b.2.2.2 = a.2.1) ∧ max a.1 b.1 < min a.2.2.1 b.2.2.1 := by
  simp [touchS]
theorem touch_symm {a b : R4} (h : touchS a b = true) : touchS b a = true := by
  rw [touch_iff] at h ⊢
  exact ⟨h.1.symm, by omega⟩
theorem Ord.same {Q : List Band} (h : Ord Q) {p q : Band} (hp : p ∈ Q) (hq : q ∈ Q) {y : Int} (h1 : p.1 ≤ y) (h2 : y < p.2.1) (h3 : q.1 ≤ y) (h4 : y < q.2.1) : p = q := by
  induction Q with
  | nil => cases hp
  | cons a Q ih =>
    have hl := (List.pairwise_cons.1 h.1).1
    rcases List.mem_cons.1 hp with rfl | hp
    · rcases List.mem_cons.1 hq with rfl | hq
      · rfl
      · have := hl q hq; omega
    · rcases List.mem_cons.1 hq with e | hq
      · subst e; have := hl p (by assumption); omega
      · exact ih h.tail (by assumption) hq
theorem OKR.same {l : List Run} (h : OKR l) {p q : Run} (hp : p ∈ l) (hq : q ∈ l) : p = q ∨ p.2 < q.1 ∨ q.2 < p.1 := by
  obtain ⟨h1, h2⟩ := OKR.iff.1 h
  clear h h2
  induction l with
  | nil => cases hp
  | cons a l ih =>
    have hl := (List.pairwise_cons.1 h1).1
    rcases List.mem_cons.1 hp with rfl | hp
    · rcases List.mem_cons.1 hq with rfl | hq
      · exact .inl rfl
      · exact .inr (.inl (hl q hq))
    · rcases List.mem_cons.1 hq with e | hq
      · subst e; exact .inr (.inr (hl p (by assumption)))
      · exact ih (by assumption) hq (List.pairwise_cons.1 h1).2
/-- the geometry of a region -/
structure Geo (S : Int → Int → Bool) (L : List R4) : Prop where
  full : ∀ r ∈ L, rectEmptyS r = false
  has : ∀ x y, inL L x y = S x y
  apart : L.Pairwise fun r s => ∀ x y, hasR r x y = true → hasR s x y = true → False
  side : ∀ r ∈ L, ∀ s ∈ L, ∀ x y, hasR r x y = true → hasR s (x + 1) y = true → hasR r (x + 1) y = true
theorem RegionOf.geo {S : Int → Int → Bool} {L : List R4} (h : RegionOf S L) (hw : InWin S) : Geo S L := by
  have hhas := h.has hw
  obtain ⟨B, h1, h2, rfl⟩ := h
  have e : inB B = S := funext fun x => funext fun y => h2 x y
  have hb := h1.win (by rw [e]; exact hw)
  have ho := OKB.ord h1.1
  have hfull : ∀ b ∈ B, ∀ r ∈ b.2.2, rectEmptyS (r.1, b.1, r.2, b.2.1) = false := fun b hbm r hr => by
    obtain ⟨k1, k2⟩ := hb b hbm
    have := k2 r hr
    exact empty_mk (by dsimp only; omega) (by dsimp only; omega) (by dsimp only; omega) (by dsimp only; omega) (by dsimp only; omega) (by dsimp only; omega)
  have un : ∀ r ∈ rectsB B, ∃ b ∈ B, ∃ q ∈ b.2.2, r = (q.1, b.1, q.2, b.2.1) := fun r hr => by
    obtain ⟨b, hbm, hr⟩ := List.mem_flatMap.1 hr
    obtain ⟨q, hq, rfl⟩ := List.mem_map.1 hr
    exact ⟨b, hbm, q, hq, rfl⟩
  refine ⟨fun r hr => ?_, hhas, ?_, fun r hr s hs x y hrx hsx => ?_⟩
  · obtain ⟨b, hbm, q, hq, rfl⟩ := un r hr
    exact hfull b hbm q hq
  · unfold rectsB
    rw [List.pairwise_flatMap]
    refine ⟨fun b hbm => ?_, ho.1.imp fun {b c} hbc r hr s hs x y h1 h2 => ?_⟩
    · rw [List.pairwise_map]
      exact (OKR.iff.1 (h1.2 b hbm)).1.imp fun {p q} hpq x y k1 k2 => by
        obtain ⟨_, m1, m2, _⟩ := hasR_iff.1 k1
        obtain ⟨_, m3, m4, _⟩ := hasR_iff.1 k2
        dsimp only at m1 m2 m3 m4
        omega
    · obtain ⟨p, hp, rfl⟩ := List.mem_map.1 hr
      obtain ⟨q, hq, rfl⟩ := List.mem_map.1 hs
      obtain ⟨_, _, _, m1, m2⟩ := hasR_iff.1 h1
      obtain ⟨_, _, _, m3, m4⟩ := hasR_iff.1 h2
      dsimp only at m1 m2 m3 m4
      omega
  · obtain ⟨b, hbm, p, hp, rfl⟩ := un r hr
    obtain ⟨c, hcm, q, hq, rfl⟩ := un s hs
    obtain ⟨m0, m1, m2, m3, m4⟩ := hasR_iff.1 hrx
    obtain ⟨n0, n1, n2, n3, n4⟩ := hasR_iff.1 hsx
    dsimp only at m1 m2 m3 m4 n1 n2 n3 n4
    have hbc := ho.same hbm hcm m3 m4 n3 n4
    subst hbc
    refine hasR_iff.2 ⟨m0, ?_, ?_, m3, m4⟩
    · dsimp only; omega
    · dsimp only
      rcases (h1.2 b hbm).same hp hq with e | e | e
      · subst e; exact n2
      · omega
      · omega
theorem below_or {r s : R4} {x y : Int} (h : hasR r x y = true) (k : hasR s x (y + 1) = true) : hasR r x (y + 1) = true ∨ hasR s x y = true ∨ touchS r s = true := by
  obtain ⟨m0, m1, m2, m3, m4⟩ := hasR_iff.1 h
  obtain ⟨n0, n1, n2, n3, n4⟩ := hasR_iff.1 k
  by_cases h1 : y + 1 < r.2.2.2
  · exact .inl (hasR_iff.2 ⟨m0, m1, m2, by omega, h1⟩)
  · by_cases h2 : s.2.1 ≤ y
    · exact .inr (.inl (hasR_iff.2 ⟨n0, n1, n2, h2, by omega⟩))
    · exact .inr (.inr (touch_iff.2 ⟨.inl (by omega), by omega⟩))
theorem Geo.idx {S : Int → Int → Bool} {L : List R4} (h : Geo S L) {i j : Nat} {r s : R4} (hi : L[i]? = some r) (hj : L[j]? = some s) {x y : Int} (h1 : hasR r x y = true) (h2 : hasR s x y = true) : i = j := by
  obtain ⟨ki, ei⟩ := List.getElem?_eq_some_iff.1 hi
  obtain ⟨kj, ej⟩ := List.getElem?_eq_some_iff.1 hj
  have hp := List.pairwise_iff_getElem.1 h.apart
  rcases Nat.lt_trichotomy i j with k | k | k
  · exact (hp i j ki kj k x y (by rw [ei]; exact h1) (by rw [ej]; exact h2)).elim
  · exact k
  · exact (hp j i kj ki k x y (by rw [ej]; exact h2) (by rw [ei]; exact h1)).elim
theorem Geo.adj {S : Int → Int → Bool} {L : List R4} (h : Geo S L) {i j : Nat} {r s : R4} (hi : L[i]? = some r) (hj : L[j]? = some s) : adjS r s = touchS r s := by
  have hr := List.mem_of_getElem? hi
  have hs := List.mem_of_getElem? hj
  have er := empty_false (h.full r hr)
  have es := empty_false (h.full s hs)
  unfold adjS touchS
  by_cases k : r.2.2.2 = s.2.1 ∨ s.2.2.2 = r.2.1
  · rw [if_pos k]
    have : (decide (r.2.2.2 = s.2.1) || decide (s.2.2.2 = r.2.1)) = true := by simpa using k
    rw [this, Bool.true_and]
  · rw [if_neg k]
    have : (decide (r.2.2.2 = s.2.1) || decide (s.2.2.2 = r.2.1)) = false := by
      rw [Bool.eq_false_iff]; intro e; exact k (by simpa using e)
    rw [this, Bool.false_and]
    split
    · rename_i k2
      rw [decide_eq_false_iff_not]
      intro hov
      have full := fun (q : R4) (hq : q ∈ L) (x y : Int) (a : q.1 ≤ x) (b : x < q.2.2.1) (c : q.2.1 ≤ y) (d : y < q.2.2.2) => hasR_iff.2 ⟨h.full q hq, a, b, c, d⟩
      rcases k2 with k2 | k2
      · have h1 := full r hr (r.2.2.1 - 1) (max r.2.1 s.2.1) (by omega) (by omega) (by omega) (by omega)
        have h2 := full s hs (r.2.2.1 - 1 + 1) (max r.2.1 s.2.1) (by omega) (by omega) (by omega) (by omega)
        have := (hasR_iff.1 (h.side r hr s hs _ _ h1 h2)).2.2.1
        omega
      · have h1 := full s hs (s.2.2.1 - 1) (max r.2.1 s.2.1) (by omega) (by omega) (by omega) (by omega)
        have h2 := full r hr (s.2.2.1 - 1 + 1) (max r.2.1 s.2.1) (by omega) (by omega) (by omega) (by omega)
        have := (hasR_iff.1 (h.side s hs r hr _ _ h1 h2)).2.2.1
        omega
    · rfl
/-! connected indices, connected pixels -/
def Adj (L : List R4) (i j : Nat) : Prop := ∃ r s, L[i]? = some r ∧ L[j]? = some s ∧ touchS r s = true
theorem Adj.symm {L : List R4} {i j : Nat} (h : Adj L i j) : Adj L j i := let ⟨r, s, h1, h2, h3⟩ := h; ⟨s, r, h2, h1, touch_symm h3⟩
inductive IConn (L : List R4) : Nat → Nat → Prop
  | refl (i : Nat) (h : i < L.length) : IConn L i i
  | step {i j k : Nat} (h : IConn L i j) (a : Adj L j k) : IConn L i k
theorem IConn.lt {L : List R4} {i j : Nat} (h : IConn L i j) : i < L.length ∧ j < L.length := by
  induction h with
  | refl h => exact ⟨h, h⟩
  | step _ a ih => obtain ⟨_, _, _, h2, _⟩ := a; exact ⟨ih.1, (List.getElem?_eq_some_iff.1 h2).1⟩
theorem IConn.trans {L : List R4} {i j k : Nat} (h : IConn L i j) (h2 : IConn L j k) : IConn L i k := by
  induction h2 with
  | refl _ => exact h
  | step _ a ih => exact .step ih a
theorem Adj.conn {L : List R4} {i j : Nat} (h : Adj L i j) : IConn L i j := by
  obtain ⟨_, _, h1, _, _⟩ := id h
  exact .step (.refl i (List.getElem?_eq_some_iff.1 h1).1) h
theorem IConn.symm {L : List R4} {i j : Nat} (h : IConn L i j) : IConn L j i := by
  induction h with
  | refl h => exact .refl _ h
  | step _ a ih => exact a.symm.conn.trans ih
/-- the least of its component -/
def Least (L : List R4) (i : Nat) : Prop := ∀ j, IConn L i j → i ≤ j
structure Mins (L : List R4) (n : Nat) (ms : List Nat) : Prop where
  sorted : ms.Pairwise (· < ·)
  mem : ∀ i, i ∈ ms ↔ i < n ∧ i < L.length ∧ Least L i
theorem Mins.start (L : List R4) : Mins L 0 [] := ⟨List.Pairwise.nil, fun i => by simp⟩
theorem Mins.yes {L : List R4} {n : Nat} {ms : List Nat} (h : Mins L n ms) (hn : n < L.length) (hl : Least L n) : Mins L (n + 1) (ms ++ [n]) := by
  refine ⟨List.pairwise_append.2 ⟨h.sorted, List.pairwise_singleton _ _, fun i hi j hj => ?_⟩, fun i => ?_⟩
  · rw [List.mem_singleton.1 hj]; exact ((h.mem i).1 hi).1
  · rw [List.mem_append, h.mem, List.mem_singleton]
    constructor
    · rintro (⟨h1, h2, h3⟩ | rfl)
      · exact ⟨by omega, h2, h3⟩
      · exact ⟨by omega, hn, hl⟩
    · rintro ⟨h1, h2, h3⟩
      rcases Nat.lt_or_ge i n with k | k
      · exact .inl ⟨k, h2, h3⟩
      · exact .inr (by omega)
theorem Mins.no {L : List R4} {n : Nat} {ms : List Nat} (h : Mins L n ms) (hl : ¬ Least L n) : Mins L (n + 1) ms := by
  refine ⟨h.sorted, fun i => ?_⟩
  rw [h.mem]
  constructor
  · rintro ⟨h1, h2, h3⟩; exact ⟨by omega, h2, h3⟩
  · rintro ⟨h1, h2, h3⟩
    refine ⟨?_, h2, h3⟩
    rcases Nat.lt_or_ge i n with k | k
    · exact k
    · have : i = n := by omega
      subst this; exact absurd h3 hl
theorem sorted_uniq {l m : List Nat} (hl : l.Pairwise (· < ·)) (hm : m.Pairwise (· < ·)) (h : ∀ i, i ∈ l ↔ i ∈ m) : l = m := by
  induction l generalizing m with
  | nil =>
    cases m with
    | nil => rfl
    | cons b m => exact absurd ((h b).2 List.mem_cons_self) (by simp)
  | cons a l ih =>
    cases m with
    | nil => exact absurd ((h a).1 List.mem_cons_self) (by simp)
    | cons b m =>
      obtain ⟨l1, l2⟩ := List.pairwise_cons.1 hl
      obtain ⟨m1, m2⟩ := List.pairwise_cons.1 hm
      have e : a = b := by
        rcases List.mem_cons.1 ((h a).1 List.mem_cons_self) with e | e
        · exact e
        · rcases List.mem_cons.1 ((h b).2 List.mem_cons_self) with e' | e'
          · exact e'.symm
          · have := m1 a e; have := l1 b e'; omega
      subst e
      rw [ih l2 m2 fun i => ?_]
      constructor
      · intro hi
        rcases List.mem_cons.1 ((h i).1 (List.mem_cons_of_mem _ hi)) with e | e
        · subst e; exact absurd (l1 i hi) (by omega)
        · exact e
      · intro hi
        rcases List.mem_cons.1 ((h i).2 (List.mem_cons_of_mem _ hi)) with e | e
        · subst e; exact absurd (m1 i hi) (by omega)
        · exact e
theorem Mins.uniq {L : List R4} {n n' : Nat} {ms ms' : List Nat} (h : Mins L n ms) (k : Mins L n' ms') (hn : L.length ≤ n) (hn' : L.length ≤ n') : ms = ms' :=
  sorted_uniq h.sorted k.sorted fun i => by
    rw [h.mem, k.mem]
    constructor
    · rintro ⟨_, h2, h3⟩; exact ⟨by omega, h2, h3⟩
    · rintro ⟨_, h2, h3⟩; exact ⟨by omega, h2, h3⟩
/-- P: the rectangles of the component of i -/
def CompOf (L : List R4) (i : Nat) (P : List R4) : Prop := ∀ r, r ∈ P ↔ ∃ j, IConn L i j ∧ L[j]? = some r
structure CompsOf (L : List R4) (ms : List Nat) (C : List (List R4)) : Prop where
  len : C.length = ms.length
  each : ∀ (k i : Nat) (M : List R4), ms[k]? = some i → C[k]? = some M → ∃ P, CompOf L i P ∧ RegionOf (inL P) M
theorem CompsOf.start (L : List R4) : CompsOf L [] [] := ⟨rfl, fun k i M h => by simp at h⟩
theorem CompsOf.snoc {L : List R4} {ms : List Nat} {C : List (List R4)} (h : CompsOf L ms C) {i : Nat} {P M : List R4} (hP : CompOf L i P) (hM : RegionOf (inL P) M) : CompsOf L (ms ++ [i]) (C ++ [M]) := by
  refine ⟨by simp [h.len], fun k j N hk hN => ?_⟩
  rcases Nat.lt_or_ge k ms.length with hlt | hge
  · rw [List.getElem?_append_left hlt] at hk
    rw [List.getElem?_append_left (by rw [h.len]; exact hlt)] at hN
    exact h.each k j N hk hN
  · rw [List.getElem?_append_right hge] at hk
    rw [List.getElem?_append_right (by rw [h.len]; exact hge), h.len] at hN
    have h0 : k - ms.length = 0 := by
      have := (List.getElem?_eq_some_iff.1 hk).1
      simp at this
      omega
    rw [h0] at hk hN
    simp only [List.getElem?_cons_zero, Option.some.injEq] at hk hN
    subst hk; subst hN
    exact ⟨P, hP, hM⟩
theorem CompsOf.uniq {L : List R4} {ms : List Nat} {C D : List (List R4)} (h : CompsOf L ms C) (k : CompsOf L ms D) : C = D := by
  refine List.ext_getElem? fun n => ?_
  rcases Nat.lt_or_ge n ms.length with hlt | hge
  · have h1 : n < C.length := by rw [h.len]; exact hlt
    have h2 : n < D.length := by rw [k.len]; exact hlt
    rw [List.getElem?_eq_getElem h1, List.getElem?_eq_getElem h2]
    obtain ⟨P, hP, hM⟩ := h.each n _ _ (List.getElem?_eq_getElem hlt) (List.getElem?_eq_getElem h1)
    obtain ⟨Q, hQ, hN⟩ := k.each n _ _ (List.getElem?_eq_getElem hlt) (List.getElem?_eq_getElem h2)
    rw [hM.uniq hN (inL_congr fun r => (hP r).trans (hQ r).symm)]
  · rw [List.getElem?_eq_none (by rw [h.len]; exact hge), List.getElem?_eq_none (by rw [k.len]; exact hge)]

/-! the program's way: what is reached from i by touching -/
def SeenTo (L : List R4) (i : Nat) (J : List Nat) (j : Nat) : Prop := (∃ m, m < i ∧ IConn L m j) ∨ j ∈ J
structure Flood (L : List R4) (i : Nat) (J : List Nat) : Prop where
  nodup : J.Nodup
  conn : ∀ j ∈ J, IConn L i j
  fresh : ∀ m, m < i → ¬ IConn L m i
  has : i ∈ J
theorem Flood.start {L : List R4} {i : Nat} (hi : i < L.length) (h : ∀ m, m < i → ¬ IConn L m i) : Flood L i [i] :=
  ⟨by simp, fun j hj => by rw [List.mem_singleton.1 hj]; exact .refl i hi, h, by simp⟩
theorem Flood.snoc {L : List R4} {i j n : Nat} {J : List Nat} (h : Flood L i J) (hj : j ∈ J) (ha : Adj L j n) (hn : n ∉ J) : Flood L i (J ++ [n]) := by
  refine ⟨List.nodup_append.2 ⟨h.nodup, by simp, fun a haa b hb e => ?_⟩, fun k hk => ?_, h.fresh, List.mem_append_left _ h.has⟩
  · rw [List.mem_singleton.1 hb] at e; subst e; exact hn haa
  · rcases List.mem_append.1 hk with hk | hk
    · exact h.conn k hk
    · rw [List.mem_singleton.1 hk]; exact .step (h.conn j hj) ha
theorem nodup_le {J : List Nat} {n : Nat} (h : J.Nodup) (hl : ∀ j ∈ J, j < n) : J.length ≤ n := by
  induction n generalizing J with
  | zero =>
    cases J with
    | nil => exact Nat.le_refl _
    | cons j J => exact absurd (hl j List.mem_cons_self) (by omega)
  | succ n ih =>
    have h1 := ih (J := J.erase n) (h.erase n) fun j hj => by
      have h2 := hl j (List.mem_of_mem_erase hj)
      have : j ≠ n := fun e => by subst e; exact absurd hj h.not_mem_erase
      omega
    by_cases hn : n ∈ J
    · have := List.length_erase_of_mem hn; omega
    · rw [List.erase_of_not_mem hn] at h1; omega
theorem Flood.le {L : List R4} {i : Nat} {J : List Nat} (h : Flood L i J) : J.length ≤ L.length := nodup_le h.nodup fun j hj => (h.conn j hj).lt.2
theorem Flood.end {L : List R4} {i : Nat} {J : List Nat} (h : Flood L i J) (hc : ∀ j ∈ J, ∀ n, Adj L j n → SeenTo L i J n) : ∀ j, IConn L i j ↔ j ∈ J := by
  intro j
  refine ⟨fun hj => ?_, h.conn j⟩
  induction hj with
  | refl _ => exact h.has
  | step h1 a ih =>
    rename_i j k
    have h2 := ih
    rcases hc j h2 k a with ⟨m, hm, hmk⟩ | hk
    · exact absurd (hmk.trans (IConn.symm (.step h1 a))) (h.fresh m hm)
    · exact hk
/-! the reference's way: labels -/
structure LabOk (L : List R4) (lab : List Nat) : Prop where
  len : lab.length = L.length
  each : ∀ (i v : Nat), lab[i]? = some v → v ≤ i ∧ IConn L i v
theorem LabOk.start (L : List R4) : LabOk L (List.range L.length) := ⟨by simp, fun i v h => by
  have hi := (List.getElem?_eq_some_iff.1 h).1
  rw [List.length_range] at hi
  rw [List.getElem?_range hi] at h
  injection h with h
  subst h
  exact ⟨Nat.le_refl _, .refl _ hi⟩⟩
theorem sum_set {l : List Nat} {i a v : Nat} (h : l[i]? = some a) : (l.set i v).sum + a = l.sum + v := by
  induction l generalizing i with
  | nil => simp at h
  | cons x l ih =>
    cases i with
    | zero => simp at h; subst h; simp only [List.set_cons_zero, List.sum_cons]; omega
    | succ i =>
      have := ih (i := i) (by simpa using h)
      simp only [List.set_cons_succ, List.sum_cons]
      omega
theorem LabOk.low {L : List R4} {lab : List Nat} (h : LabOk L lab) {i k a b : Nat} (hk : k < i) (hi : lab[i]? = some a) (hk2 : lab[k]? = some b) (hne : a ≠ b) (had : Adj L i k) :
    LabOk L ((lab.set i (min a b)).set k (min a b)) ∧ ((lab.set i (min a b)).set k (min a b)).sum < lab.sum := by
  obtain ⟨a1, a2⟩ := h.each i a hi
  obtain ⟨b1, b2⟩ := h.each k b hk2
  have hmin : min a b = a ∨ min a b = b := by omega
  have hci : IConn L i (min a b) := by
    rcases hmin with e | e
    · rw [e]; exact a2
    · rw [e]; exact had.conn.trans b2
  have hck : IConn L k (min a b) := by
    rcases hmin with e | e
    · rw [e]; exact had.symm.conn.trans a2
    · rw [e]; exact b2
  refine ⟨⟨by simp [h.len], fun j v hv => ?_⟩, ?_⟩
  · by_cases e : k = j
    · subst e
      rw [List.getElem?_set_self (by rw [List.length_set]; exact (List.getElem?_eq_some_iff.1 hk2).1)] at hv
      injection hv with hv
      subst hv
      exact ⟨by omega, hck⟩
    · rw [List.getElem?_set_ne e] at hv
      by_cases e2 : i = j
      · subst e2
        rw [List.getElem?_set_self (List.getElem?_eq_some_iff.1 hi).1] at hv
        injection hv with hv
        subst hv
        exact ⟨by omega, hci⟩
      · rw [List.getElem?_set_ne e2] at hv
        exact h.each j v hv
  · have h1 := sum_set (v := min a b) hi
    have h2 := sum_set (l := lab.set i (min a b)) (i := k) (a := b) (v := min a b) (by rw [List.getElem?_set_ne (by omega)]; exact hk2)
    omega
theorem LabOk.const {L : List R4} {lab : List Nat} (h : LabOk L lab) (hd : ∀ i k, k < i → Adj L i k → lab[i]? = lab[k]?) {i j : Nat} (hc : IConn L i j) : lab[i]? = lab[j]? := by
  induction hc with
  | refl _ => rfl
  | step hst a ih =>
    rename_i j k
    rw [ih]
    rcases Nat.lt_trichotomy j k with e | e | e
    · exact (hd k j e a.symm).symm
    · rw [e]
    · exact hd j k e a
theorem LabOk.least {L : List R4} {lab : List Nat} (h : LabOk L lab) (hd : ∀ i k, k < i → Adj L i k → lab[i]? = lab[k]?) {i : Nat} (hi : i < L.length) : lab[i]? = some i ↔ Least L i := by
  constructor
  · intro e j hj
    have := h.const hd hj
    rw [e] at this
    exact (h.each j i this.symm).1
  · intro hl
    obtain ⟨v, hv⟩ : ∃ v, lab[i]? = some v := ⟨_, List.getElem?_eq_getElem (by rw [h.len]; exact hi)⟩
    obtain ⟨h1, h2⟩ := h.each i v hv
    have := hl v h2
    rw [hv, show v = i by omega]
theorem LabOk.mem {L : List R4} {lab : List Nat} (h : LabOk L lab) (hd : ∀ i k, k < i → Adj L i k → lab[i]? = lab[k]?) {i k : Nat} (hi : lab[i]? = some i) : lab[k]? = some i ↔ IConn L i k := by
  constructor
  · intro e; exact ((h.each k i e).2).symm
  · intro hc; rw [← h.const hd hc]; exact hi

/-! connected pixels -/
inductive PConn (S : Int → Int → Bool) (x y : Int) : Int → Int → Prop
  | refl (h : S x y = true) : PConn S x y x y
  | right {a b : Int} (h : PConn S x y a b) (k : S (a + 1) b = true) : PConn S x y (a + 1) b
  | left {a b : Int} (h : PConn S x y (a + 1) b) (k : S a b = true) : PConn S x y a b
  | down {a b : Int} (h : PConn S x y a b) (k : S a (b + 1) = true) : PConn S x y a (b + 1)
  | up {a b : Int} (h : PConn S x y a (b + 1)) (k : S a b = true) : PConn S x y a b
theorem PConn.in {S : Int → Int → Bool} {x y a b : Int} (h : PConn S x y a b) : S a b = true := by
  cases h <;> assumption
theorem PConn.trans {S : Int → Int → Bool} {x y a b c d : Int} (h : PConn S x y a b) (k : PConn S a b c d) : PConn S x y c d := by
  induction k with
  | refl _ => exact h
  | right _ k ih => exact .right ih k
  | left _ k ih => exact .left ih k
  | down _ k ih => exact .down ih k
  | up _ k ih => exact .up ih k
/-- inside one rectangle -/
theorem rect_conn {S : Int → Int → Bool} {r : R4} (hS : ∀ x y, hasR r x y = true → S x y = true) {x y a b : Int} (h : hasR r x y = true) (k : hasR r a b = true) : PConn S x y a b := by
  obtain ⟨e0, h1, h2, h3, h4⟩ := hasR_iff.1 h
  obtain ⟨_, k1, k2, k3, k4⟩ := hasR_iff.1 k
  have hin := fun (u v : Int) (a1 : r.1 ≤ u) (a2 : u < r.2.2.1) (a3 : r.2.1 ≤ v) (a4 : v < r.2.2.2) => hS u v (hasR_iff.2 ⟨e0, a1, a2, a3, a4⟩)
  have row : ∀ (n : Nat) (u v w : Int), r.1 ≤ u → u < r.2.2.1 → r.1 ≤ w → w < r.2.2.1 → r.2.1 ≤ v → v < r.2.2.2 → (w - u).natAbs = n → PConn S u v w v := fun n => by
    induction n with
    | zero => intro u v w a1 a2 a3 a4 a5 a6 e; have : w = u := by omega
              subst this; exact .refl (hin _ _ a1 a2 a5 a6)
    | succ n ih =>
      intro u v w a1 a2 a3 a4 a5 a6 e
      rcases Int.lt_or_gt_of_ne (show w ≠ u by omega) with k | k
      · exact .left (ih u v (w + 1) a1 a2 (by omega) (by omega) a5 a6 (by omega)) (hin _ _ a3 a4 a5 a6)
      · have h1 := ih u v (w - 1) a1 a2 (by omega) (by omega) a5 a6 (by omega)
        have h2 := PConn.right h1 (by rw [Int.sub_add_cancel]; exact hin _ _ a3 a4 a5 a6)
        rw [Int.sub_add_cancel] at h2
        exact h2
  have col : ∀ (n : Nat) (u v w : Int), r.1 ≤ u → u < r.2.2.1 → r.2.1 ≤ v → v < r.2.2.2 → r.2.1 ≤ w → w < r.2.2.2 → (w - v).natAbs = n → PConn S u v u w := fun n => by
    induction n with
    | zero => intro u v w a1 a2 a3 a4 a5 a6 e; have : w = v := by omega
              subst this; exact .refl (hin _ _ a1 a2 a3 a4)
    | succ n ih =>
      intro u v w a1 a2 a3 a4 a5 a6 e
      rcases Int.lt_or_gt_of_ne (show w ≠ v by omega) with k | k
      · exact .up (ih u v (w + 1) a1 a2 a3 a4 (by omega) (by omega) (by omega)) (hin _ _ a1 a2 a5 a6)
      · have h1 := ih u v (w - 1) a1 a2 a3 a4 (by omega) (by omega) (by omega)
        have h2 := PConn.down h1 (by rw [Int.sub_add_cancel]; exact hin _ _ a1 a2 a5 a6)
        rw [Int.sub_add_cancel] at h2
        exact h2
  exact (row _ x y a h1 h2 k1 k2 h3 h4 rfl).trans (col _ a y b k1 k2 h3 h4 k3 k4 rfl)
theorem Geo.sub {S : Int → Int → Bool} {L : List R4} (h : Geo S L) {r : R4} (hr : r ∈ L) (x y : Int) (hh : hasR r x y = true) : S x y = true := by
  rw [← h.has]; exact inL_iff.2 ⟨r, hr, hh⟩
/-- touching rectangles have neighbouring pixels -/
theorem touch_conn {S : Int → Int → Bool} {r s : R4} (er : rectEmptyS r = false) (es : rectEmptyS s = false) (hr : ∀ x y, hasR r x y = true → S x y = true) (hs : ∀ x y, hasR s x y = true → S x y = true) (ht : touchS r s = true) : ∃ x y a b, hasR r x y = true ∧ hasR s a b = true ∧ PConn S x y a b := by
  obtain ⟨h1, h2⟩ := touch_iff.1 ht
  have e1 := empty_false er
  have e2 := empty_false es
  rcases h1 with h1 | h1
  · have k1 : hasR r (max r.1 s.1) (r.2.2.2 - 1) = true := hasR_iff.2 ⟨er, by omega, by omega, by omega, by omega⟩
    have k2 : hasR s (max r.1 s.1) (r.2.2.2 - 1 + 1) = true := hasR_iff.2 ⟨es, by omega, by omega, by omega, by omega⟩
    exact ⟨_, _, _, _, k1, k2, .down (.refl (hr _ _ k1)) (hs _ _ k2)⟩
  · have k1 : hasR r (max r.1 s.1) (s.2.2.2 - 1 + 1) = true := hasR_iff.2 ⟨er, by omega, by omega, by omega, by omega⟩
    have k2 : hasR s (max r.1 s.1) (s.2.2.2 - 1) = true := hasR_iff.2 ⟨es, by omega, by omega, by omega, by omega⟩
    exact ⟨_, _, _, _, k1, k2, .up (.refl (hr _ _ k1)) (hs _ _ k2)⟩
theorem rect_pixel {r : R4} (h : rectEmptyS r = false) : hasR r r.1 r.2.1 = true := by
  have := empty_false h
  exact hasR_iff.2 ⟨h, by omega, by omega, by omega, by omega⟩
/-- connected indices: connected pixels, in whatever holds the component's rectangles -/
theorem IConn.pix {L : List R4} (hf : ∀ r ∈ L, rectEmptyS r = false) {T : Int → Int → Bool} {i j : Nat} (h : IConn L i j) (hT : ∀ k r x y, IConn L i k → L[k]? = some r → hasR r x y = true → T x y = true) :
    ∀ (r s : R4) (x y a b : Int), L[i]? = some r → L[j]? = some s → hasR r x y = true → hasR s a b = true → PConn T x y a b := by
  induction h with
  | refl hl =>
    intro r s x y a b h1 h2 k1 k2
    rw [h1] at h2
    injection h2 with h2
    subst h2
    exact rect_conn (fun u v k => hT _ _ u v (.refl _ hl) h1 k) k1 k2
  | step hc ad ih =>
    rename_i j k
    intro r s x y a b h1 h2 k1 k2
    obtain ⟨p, q, hp, hq, ht⟩ := id ad
    rw [h2] at hq
    injection hq with hq
    subst hq
    obtain ⟨u, v, c, d, m1, m2, m3⟩ := touch_conn (S := T) (hf p (List.mem_of_getElem? hp)) (hf s (List.mem_of_getElem? h2)) (fun x y e => hT _ _ x y hc hp e) (fun x y e => hT _ _ x y (.step hc ad) h2 e) ht
    exact ((ih r p x y u v h1 hp k1 m1).trans m3).trans (rect_conn (fun x y e => hT _ _ x y (.step hc ad) h2 e) m2 k2)
theorem Geo.find {S : Int → Int → Bool} {L : List R4} (h : Geo S L) {x y : Int} (hS : S x y = true) : ∃ (i : Nat) (r : R4), L[i]? = some r ∧ hasR r x y = true := by
  rw [← h.has] at hS
  obtain ⟨r, hr, hh⟩ := inL_iff.1 hS
  obtain ⟨i, hi, e⟩ := List.getElem_of_mem hr
  exact ⟨i, r, by rw [List.getElem?_eq_getElem hi, e], hh⟩
/-- neighbouring pixels: the same rectangle, or touching ones -/
theorem Geo.next {S : Int → Int → Bool} {L : List R4} (h : Geo S L) {i j : Nat} {r s : R4} (hi : L[i]? = some r) (hj : L[j]? = some s) {x y : Int} :
    (hasR r x y = true → hasR s (x + 1) y = true → i = j) ∧ (hasR r x y = true → hasR s x (y + 1) = true → i = j ∨ Adj L i j) := by
  have hr := List.mem_of_getElem? hi
  have hs := List.mem_of_getElem? hj
  refine ⟨fun h1 h2 => h.idx hi hj (h.side r hr s hs x y h1 h2) h2, fun h1 h2 => ?_⟩
  rcases below_or h1 h2 with e | e | e
  · exact .inl (h.idx hi hj e h2)
  · exact .inl (h.idx hi hj h1 e)
  · exact .inr ⟨r, s, hi, hj, e⟩
theorem PConn.idx {S : Int → Int → Bool} {L : List R4} (h : Geo S L) {x y a b : Int} (hc : PConn S x y a b) : ∀ (i j : Nat) (r s : R4), L[i]? = some r → L[j]? = some s → hasR r x y = true → hasR s a b = true → IConn L i j := by
  have one : ∀ {i j k : Nat}, IConn L i j → (j = k ∨ Adj L j k) → IConn L i k := fun hij e => by
    rcases e with e | e
    · rw [← e]; exact hij
    · exact .step hij e
  have one' : ∀ {i j k : Nat}, IConn L i j → (k = j ∨ Adj L k j) → IConn L i k := fun hij e => one hij (e.imp Eq.symm Adj.symm)
  induction hc with
  | refl _ =>
    intro i j r s hi hj h1 h2
    have := h.idx hi hj h1 h2
    subst this
    exact .refl _ (List.getElem?_eq_some_iff.1 hi).1
  | right h0 k ih =>
    intro i j r s hi hj h1 h2
    obtain ⟨m, q, hm, hq⟩ := h.find h0.in
    exact one (ih i m r q hi hm h1 hq) (.inl ((h.next hm hj).1 hq h2))
  | left h0 k ih =>
    intro i j r s hi hj h1 h2
    obtain ⟨m, q, hm, hq⟩ := h.find h0.in
    exact one' (ih i m r q hi hm h1 hq) (.inl ((h.next hj hm).1 h2 hq))
  | down h0 k ih =>
    intro i j r s hi hj h1 h2
    obtain ⟨m, q, hm, hq⟩ := h.find h0.in
    exact one (ih i m r q hi hm h1 hq) ((h.next hm hj).2 hq h2)
  | up h0 k ih =>
    intro i j r s hi hj h1 h2
    obtain ⟨m, q, hm, hq⟩ := h.find h0.in
    exact one' (ih i m r q hi hm h1 hq) ((h.next hj hm).2 h2 hq)
/-- a component is connected: it has one component -/
theorem comp_one {S : Int → Int → Bool} {L : List R4} (h : Geo S L) {i : Nat} (hi : i < L.length) {P M : List R4} (hP : CompOf L i P) (hM : RegionOf (inL P) M) {ms : List Nat} (hms : Mins M M.length ms) : ms = [0] := by
  have hg := hM.geo (inL_win P)
  have hin : ∀ x y, inL P x y = true ↔ ∃ (j : Nat) (r : R4), IConn L i j ∧ L[j]? = some r ∧ hasR r x y = true := fun x y => by
    rw [inL_iff]
    constructor
    · rintro ⟨r, hr, hh⟩; obtain ⟨j, h1, h2⟩ := (hP r).1 hr; exact ⟨j, r, h1, h2, hh⟩
    · rintro ⟨j, r, h1, h2, hh⟩; exact ⟨r, (hP r).2 ⟨j, h1, h2⟩, hh⟩
  have hall : ∀ a b, a < M.length → b < M.length → IConn M a b := fun a b ha hb => by
    have ea := List.getElem?_eq_getElem ha
    have eb := List.getElem?_eq_getElem hb
    have pa := rect_pixel (hg.full _ (List.mem_of_getElem? ea))
    have pb := rect_pixel (hg.full _ (List.mem_of_getElem? eb))
    have sa := hg.sub (List.mem_of_getElem? ea) _ _ pa
    have sb := hg.sub (List.mem_of_getElem? eb) _ _ pb
    obtain ⟨j, r, j1, j2, j3⟩ := (hin _ _).1 sa
    obtain ⟨k, s, k1, k2, k3⟩ := (hin _ _).1 sb
    have := (j1.symm.trans k1).pix h.full (T := inL P) (fun m q x y c1 c2 c3 => (hin x y).2 ⟨m, q, j1.trans c1, c2, c3⟩) r s _ _ _ _ j2 k2 j3 k3
    exact this.idx hg a b _ _ ea eb pa pb
  have hne : 0 < M.length := by
    obtain ⟨r, hr⟩ : ∃ r, L[i]? = some r := ⟨_, List.getElem?_eq_getElem hi⟩
    have hp := rect_pixel (h.full r (List.mem_of_getElem? hr))
    have hs := (hin _ _).2 ⟨i, r, .refl i hi, hr, hp⟩
    obtain ⟨j, q, hj, _⟩ := hg.find hs
    have := (List.getElem?_eq_some_iff.1 hj).1
    omega
  refine sorted_uniq hms.sorted (by simp) fun j => ?_
  rw [hms.mem, List.mem_singleton]
  constructor
  · rintro ⟨h1, h2, h3⟩
    have := h3 0 (hall j 0 h1 hne)
    omega
  · rintro rfl
    exact ⟨hne, hne, fun j hj => Nat.zero_le _⟩

end Go.Reg
