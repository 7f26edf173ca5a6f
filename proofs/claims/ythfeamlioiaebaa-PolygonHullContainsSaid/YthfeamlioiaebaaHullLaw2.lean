/- Plain laws of convex hulls: the walk around the points finds the ring of the two chains. No program stands here. -/
import Derived.Test.YthfeamlioiaebaaHullLaw
set_option linter.unusedVariables false
set_option linter.unusedSimpArgs false
namespace Go.Proofs.Ythfeamlioiaebaa
open Go.RowKit Go.Par

theorem sgn_neg (n : Int) : sgnS n < 0 ↔ n < 0 := by
  unfold sgnS
  split
  · omega
  · split <;> omega
theorem sgn_zero_iff (n : Int) : sgnS n = 0 ↔ n = 0 := by
  unfold sgnS
  split
  · omega
  · split <;> omega
def stepW (a b p : P2) : P2 := if b = a ∨ orientS a b p < 0 ∨ (orientS a b p = 0 ∧ farS a b < farS a p) then p else b
def wrapS (L : List P2) (a : P2) : P2 := L.foldl (stepW a) a
def minStep (f p : P2) : P2 := if lessS p f then p else f
def firstS (L : List P2) : P2 := L.foldl minStep (atS L 0)
def giftF (L : List P2) (z : P2) : Nat → P2 → List P2 → List P2
  | 0, _, out => out
  | n + 1, p, out => if p ≠ z ∧ out.length ≤ L.length then giftF L z n (wrapS L p) (out ++ [p]) else out
def giftS (L : List P2) : List P2 := giftF L (firstS L) (L.length + 2) (wrapS L (firstS L)) [firstS L]
def hullP (S : List P2) : List P2 := if (chainR S).length + (chainR S.reverse).length < 5 then [] else (chainR S).tail.reverse ++ (chainR S.reverse).tail.reverse
def hullG (L : List P2) : List P2 := if L = [] then [] else if (giftS L).length < 3 then [] else giftS L
theorem less_lt {p q : P2} (hp : validS p = true) (hq : validS q = true) : lessS p q = decide (ltS p q) := by
  rw [Bool.eq_iff_iff, decide_eq_true_iff]
  unfold lessS ltS
  rw [(held_of_valid hp).1, (held_of_valid hp).2, (held_of_valid hq).1, (held_of_valid hq).2]
  simp
theorem step_mem {a b p : P2} : stepW a b p = p ∨ stepW a b p = b := by
  unfold stepW
  split
  · exact .inl rfl
  · exact .inr rfl
/-- along an edge the walk finds the edge's end -/
theorem wrap_edge {L : List P2} (hL : ∀ p ∈ L, validS p = true) {a b : P2} (ha : validS a = true) (hb : b ∈ L) (hab : a ≠ b) (hE : ∀ p ∈ L, edgeS a b p) : wrapS L a = b := by
  have key : ∀ (l : List P2) (c : P2), (∀ p ∈ l, p ∈ L) → (c = a ∨ c ∈ L) → (c = b ∨ b ∈ l) → l.foldl (stepW a) c = b := by
    intro l
    induction l with
    | nil =>
      intro c _ _ h
      rcases h with h | h
      · exact h
      · cases h
    | cons p l ih =>
      intro c hl hc hcb
      have hp := hl p (List.mem_cons_self ..)
      rw [List.foldl_cons]
      have hvb := hL b hb
      have hvp := hL p hp
      by_cases hcb' : c = b
      · subst hcb'
        refine ih _ (fun q hq => hl q (List.mem_cons_of_mem _ hq)) ?_ (.inl ?_)
        · exact (step_mem (a := a) (b := c) (p := p)).elim (fun h => .inr (by rw [h]; exact hp)) (fun h => .inr (by rw [h]; exact hb))
        · unfold stepW
          rw [if_neg]
          rw [orient_tri ha hvb hvp, sgn_neg, sgn_zero_iff]
          rintro (h | h | ⟨h0, h1⟩)
          · exact hab h.symm
          · rcases hE p hp with h' | h' <;> omega
          · rcases hE p hp with h' | ⟨_, h2, h3⟩
            · omega
            · have := (edge_far hab h0 h2 h3).1
              omega
      · have hbl : b ∈ p :: l := by
          rcases hcb with h | h
          · exact absurd h hcb'
          · exact h
        refine ih _ (fun q hq => hl q (List.mem_cons_of_mem _ hq)) ?_ ?_
        · rcases step_mem (a := a) (b := c) (p := p) with h | h
          · exact .inr (by rw [h]; exact hp)
          · rw [h]; exact hc
        · rcases List.mem_cons.1 hbl with rfl | h
          · refine .inl ?_
            unfold stepW
            rw [if_pos]
            rcases hc with h | hc
            · exact .inl h
            · by_cases hca : c = a
              · exact .inl hca
              · refine .inr ?_
                rw [orient_tri ha (hL c hc) hvb, sgn_neg, sgn_zero_iff]
                have e : triS a c b = - triS a b c := by unfold triS; grind
                rcases hE c hc with h' | ⟨h0, h2, h3⟩
                · exact .inl (by omega)
                · exact .inr ⟨by omega, (edge_far hab h0 h2 h3).2 hcb'⟩
          · exact .inr h
  exact key L a (fun p hp => hp) (.inl rfl) (.inr hb)
theorem wrap_same {L : List P2} {a : P2} (h : ∀ p ∈ L, p = a) : wrapS L a = a := by
  have key : ∀ (l : List P2), (∀ p ∈ l, p = a) → l.foldl (stepW a) a = a := by
    intro l
    induction l with
    | nil => intro _; rfl
    | cons p l ih =>
      intro hl
      rw [List.foldl_cons]
      have : stepW a a p = a := by
        rcases step_mem (a := a) (b := a) (p := p) with h | h
        · rw [h]; exact hl p (List.mem_cons_self ..)
        · exact h
      rw [this]
      exact ih fun q hq => hl q (List.mem_cons_of_mem _ hq)
  exact key L h
theorem first_min {L : List P2} (hL : ∀ p ∈ L, validS p = true) (hne : L ≠ []) : firstS L ∈ L ∧ ∀ p ∈ L, ¬ ltS p (firstS L) := by
  have key : ∀ (l : List P2) (f : P2), f ∈ L → (∀ p ∈ l, p ∈ L) → l.foldl minStep f ∈ L ∧ ¬ ltS f (l.foldl minStep f) ∧ ∀ p ∈ l, ¬ ltS p (l.foldl minStep f) := by
    intro l
    induction l with
    | nil => intro f hf _; exact ⟨hf, lt_irrefl _, fun p hp => by cases hp⟩
    | cons q l ih =>
      intro f hf hl
      rw [List.foldl_cons]
      have hq := hl q (List.mem_cons_self ..)
      have hm : minStep f q = if ltS q f then q else f := by
        unfold minStep
        rw [less_lt (hL q hq) (hL f hf)]
        by_cases h : ltS q f <;> simp [h]
      rw [hm]
      by_cases h : ltS q f
      · rw [if_pos h]
        obtain ⟨h1, h2, h3⟩ := ih q hq fun p hp => hl p (List.mem_cons_of_mem _ hp)
        refine ⟨h1, fun k => h2 (lt_trans h k), fun p hp => ?_⟩
        rcases List.mem_cons.1 hp with rfl | hp
        · exact h2
        · exact h3 p hp
      · rw [if_neg h]
        obtain ⟨h1, h2, h3⟩ := ih f hf fun p hp => hl p (List.mem_cons_of_mem _ hp)
        refine ⟨h1, h2, fun p hp => ?_⟩
        rcases List.mem_cons.1 hp with rfl | hp
        · intro k
          rcases lt_tri f p with h' | rfl | h'
          · exact h2 (lt_trans h' k)
          · exact h2 k
          · exact h h'
        · exact h3 p hp
  have h0 : atS L 0 ∈ L := by
    cases L with
    | nil => exact absurd rfl hne
    | cons x t => simp [atS]
  obtain ⟨h1, _, h3⟩ := key L (atS L 0) h0 fun p hp => hp
  exact ⟨h1, h3⟩
theorem gift_path {L : List P2} {z : P2} : ∀ (n : Nat) (rem out : List P2) (p : P2) (t : List P2), rem ++ [z] = p :: t → Link (fun a b => wrapS L a = b) (rem ++ [z]) → z ∉ rem → out.length + rem.length ≤ L.length + 1 → rem.length < n →
    giftF L z n p out = out ++ rem := by
  intro n
  induction n with
  | zero => intro rem out p t _ _ _ _ h; omega
  | succ n ih =>
    intro rem out p t e hl hz hlen hn
    cases rem with
    | nil =>
      simp only [List.nil_append, List.cons.injEq] at e
      unfold giftF
      rw [if_neg (fun h => h.1 e.1.symm), List.append_nil]
    | cons r rem =>
      simp only [List.cons_append, List.cons.injEq] at e
      obtain ⟨rfl, e⟩ := e
      have hrz : r ≠ z := fun h => hz (by rw [h]; exact List.mem_cons_self ..)
      simp only [List.length_cons] at hlen hn
      unfold giftF
      rw [if_pos ⟨hrz, by omega⟩]
      obtain ⟨q, t', e2⟩ : ∃ q t', rem ++ [z] = q :: t' := by
        cases rem with
        | nil => exact ⟨_, _, rfl⟩
        | cons x y => exact ⟨_, _, rfl⟩
      have hl2 : wrapS L r = q ∧ Link (fun a b => wrapS L a = b) (q :: t') := by
        rw [List.cons_append, e2] at hl
        exact hl
      rw [hl2.1, ih rem (out ++ [r]) q t' e2 (by rw [e2]; exact hl2.2) (fun h => hz (List.mem_cons_of_mem _ h)) (by simp; omega) (by omega)]
      simp
/-! ## a linked path meets no point twice -/
theorem link_det {W : P2 → P2} {z : P2} : ∀ (x y : List P2) (a : P2), Link (fun a b => W a = b) (a :: x ++ [z]) → Link (fun a b => W a = b) (a :: y ++ [z]) → z ∉ x → z ∉ y → x = y
  | [], [], _, _, _, _, _ => rfl
  | [], c :: y, a, h, k, _, hy => absurd (show z ∈ c :: y by rw [← h.1, k.1]; exact List.mem_cons_self ..) hy
  | c :: x, [], a, h, k, hx, _ => absurd (show z ∈ c :: x by rw [← k.1, h.1]; exact List.mem_cons_self ..) hx
  | c :: x, d :: y, a, h, k, hx, hy => by
    have e : c = d := h.1.symm.trans k.1
    subst e
    rw [link_det x y c h.2 k.2 (fun h' => hx (List.mem_cons_of_mem _ h')) (fun h' => hy (List.mem_cons_of_mem _ h'))]
theorem link_tail {R : P2 → P2 → Prop} : ∀ (x : List P2) {y : List P2}, Link R (x ++ y) → Link R y
  | [], _, h => h
  | [a], [], _ => trivial
  | [a], b :: y, h => h.2
  | a :: b :: x, y, h => link_tail (b :: x) h.2
theorem link_nodup {W : P2 → P2} {z : P2} : ∀ (r : List P2), Link (fun a b => W a = b) (r ++ [z]) → z ∉ r → r.Nodup
  | [], _, _ => List.nodup_nil
  | a :: t, h, hz => by
    have ht : Link (fun a b => W a = b) (t ++ [z]) := link_tail [a] h
    refine List.nodup_cons.2 ⟨fun hm => ?_, link_nodup t ht fun h' => hz (List.mem_cons_of_mem _ h')⟩
    obtain ⟨l2, l3, rfl⟩ := List.append_of_mem hm
    have h3 : Link (fun a b => W a = b) (a :: l3 ++ [z]) := by
      refine link_tail (a :: l2) ?_
      have e : a :: l2 ++ (a :: l3 ++ [z]) = a :: (l2 ++ a :: l3) ++ [z] := by simp
      rw [e]
      exact h
    have := link_det l3 (l2 ++ a :: l3) a h3 h (fun h' => hz (by simp [h'])) (fun h' => hz (List.mem_cons_of_mem _ h'))
    have := congrArg List.length this
    simp at this
    omega
theorem nodup_len : ∀ (h L : List P2), h.Nodup → (∀ x ∈ h, x ∈ L) → h.length ≤ L.length
  | [], _, _, _ => Nat.zero_le _
  | a :: t, L, hn, hs => by
    rw [List.nodup_cons] at hn
    have ha := hs a (List.mem_cons_self ..)
    have := nodup_len t (L.erase a) hn.2 fun x hx => (List.mem_erase_of_ne (by rintro rfl; exact hn.1 hx)).2 (hs x (List.mem_cons_of_mem _ hx))
    rw [List.length_erase_of_mem ha] at this
    have := List.length_pos_of_mem ha
    simp only [List.length_cons]
    omega
/-! ## both give one ring -/
theorem gift_facts {L S : List P2} (hL : ∀ p ∈ L, validS p = true) (hS : S.Pairwise ltS) (hm : ∀ p, p ∈ S ↔ p ∈ L) {s0 sm : P2} {S' S'' : List P2} (e0 : S = s0 :: S') (em : S = S'' ++ [sm]) (hne : s0 ≠ sm) :
    ∃ rem : List P2, giftS L = s0 :: rem ∧ hullP S = (if rem.length + 1 < 3 then [] else s0 :: rem) ∧ Link (fun a b => a ≠ b ∧ ∀ p ∈ L, edgeS a b p) (s0 :: rem ++ [s0]) ∧ (∀ x ∈ s0 :: rem, x ∈ L) ∧ (s0 :: rem).Nodup ∧ sm ∈ rem := by
  obtain ⟨D2, d1, d2, d3⟩ := chain_facts hS e0 em hne
  obtain ⟨U2, u1, u2, u3⟩ := chain_back hS e0 em hne
  have hs0 : s0 ∈ L := (hm _).1 (by rw [e0]; simp)
  have hsm : sm ∈ L := (hm _).1 (by rw [em]; simp)
  have hmem : ∀ x ∈ s0 :: (D2.reverse ++ sm :: U2.reverse), x ∈ L := by
    intro x hx
    simp only [List.mem_cons, List.mem_append, List.mem_reverse] at hx
    rcases hx with rfl | hx | rfl | hx
    · exact hs0
    · exact (hm _).1 (d2 x hx).1
    · exact hsm
    · exact (hm _).1 (u2 x hx).1
  have hz : s0 ∉ D2.reverse ++ sm :: U2.reverse := by
    simp only [List.mem_append, List.mem_cons, List.mem_reverse]
    rintro (h | h | h)
    · exact (d2 _ h).2 rfl
    · exact hne h
    · exact (u2 _ h).2 rfl
  have hlink : Link (fun a b => a ≠ b ∧ ∀ p ∈ S, edgeS a b p) (s0 :: (D2.reverse ++ sm :: U2.reverse) ++ [s0]) := by
    have := link_join (x := s0 :: D2.reverse) (m := sm) (y := U2.reverse ++ [s0]) d3 u3
    simpa using this
  have hlinkL : Link (fun a b => a ≠ b ∧ ∀ p ∈ L, edgeS a b p) (s0 :: (D2.reverse ++ sm :: U2.reverse) ++ [s0]) := link_mono (fun a b h => ⟨h.1, fun p hp => h.2 p ((hm p).2 hp)⟩) hlink
  have hW : Link (fun a b => wrapS L a = b) (s0 :: (D2.reverse ++ sm :: U2.reverse) ++ [s0]) := by
    have hin : ∀ l : List P2, (∀ x ∈ l, x ∈ L) → Link (fun a b => a ≠ b ∧ ∀ p ∈ L, edgeS a b p) l → Link (fun a b => wrapS L a = b) l := by
      intro l
      induction l with
      | nil => intro _ _; trivial
      | cons a t ih =>
        cases t with
        | nil => intro _ _; trivial
        | cons b t =>
          intro hx h
          exact ⟨wrap_edge hL (hL a (hx a (by simp))) (hx b (by simp)) h.1.1 h.1.2, ih (fun x h' => hx x (List.mem_cons_of_mem _ h')) h.2⟩
    refine hin _ ?_ hlinkL
    intro x hx
    rcases List.mem_append.1 hx with h | h
    · exact hmem x h
    · simp at h; rw [h]; exact hs0
  have hWr : Link (fun a b => wrapS L a = b) ((D2.reverse ++ sm :: U2.reverse) ++ [s0]) := link_tail [s0] hW
  have hnd : (s0 :: (D2.reverse ++ sm :: U2.reverse)).Nodup := List.nodup_cons.2 ⟨hz, link_nodup _ hWr hz⟩
  have hlen := nodup_len _ _ hnd hmem
  have hfirst : firstS L = s0 := by
    obtain ⟨h1, h2⟩ := first_min hL (fun e => by rw [e] at hs0; cases hs0)
    rcases lt_tri (firstS L) s0 with h | h | h
    · exfalso
      have h3 := (hm _).2 h1
      rw [e0] at h3 hS
      rcases List.mem_cons.1 h3 with h4 | h4
      · exact lt_ne h h4
      · exact lt_asymm h ((List.pairwise_cons.1 hS).1 _ h4)
    · exact h
    · exact absurd h (h2 s0 hs0)
  refine ⟨D2.reverse ++ sm :: U2.reverse, ?_, ?_, hlinkL, hmem, hnd, by simp⟩
  · unfold giftS
    rw [hfirst]
    obtain ⟨q, t, e2⟩ : ∃ q t, (D2.reverse ++ sm :: U2.reverse) ++ [s0] = q :: t := by
      cases (D2.reverse ++ sm :: U2.reverse) with
      | nil => exact ⟨_, _, rfl⟩
      | cons x y => exact ⟨_, _, rfl⟩
    have hq : wrapS L s0 = q := by
      rw [List.cons_append, e2] at hW
      exact hW.1
    rw [hq, gift_path _ _ _ q t e2 hWr hz (by simp at hlen ⊢; omega) (by simp at hlen ⊢; omega)]
    rfl
  · unfold hullP
    rw [d1, u1]
    simp only [List.length_cons, List.length_append, List.length_reverse, List.length_nil, List.tail_cons, List.reverse_append, List.reverse_cons, List.reverse_nil, List.nil_append]
    by_cases h : D2.length + U2.length = 0
    · rw [if_pos (by omega), if_pos (by omega)]
    · rw [if_neg (by omega), if_neg (by omega)]
      simp
theorem hull_main {L S : List P2} (hL : ∀ p ∈ L, validS p = true) (hS : S.Pairwise ltS) (hm : ∀ p, p ∈ S ↔ p ∈ L) : hullP S = hullG L := by
  cases S with
  | nil =>
    have : L = [] := List.eq_nil_iff_forall_not_mem.2 fun p hp => by have := (hm p).2 hp; cases this
    subst this
    rfl
  | cons s0 S' =>
    have hne : L ≠ [] := fun e => by have := (hm s0).1 (by simp); rw [e] at this; cases this
    rcases List.eq_nil_or_concat S' with rfl | ⟨S2, sm, e⟩
    · have hall : ∀ p ∈ L, p = s0 := fun p hp => by simpa using (hm p).2 hp
      have hf : firstS L = s0 := hall _ (first_min hL hne).1
      unfold hullG
      rw [if_neg hne]
      have hg : giftS L = [s0] := by
        unfold giftS
        rw [hf, wrap_same hall]
        unfold giftF
        rw [if_neg (fun h => h.1 rfl)]
      rw [hg]
      rfl
    · rw [List.concat_eq_append] at e
      subst e
      have hlt : s0 ≠ sm := lt_ne ((List.pairwise_cons.1 hS).1 sm (by simp))
      obtain ⟨rem, h1, h2, _⟩ := gift_facts hL hS hm (s0 := s0) (sm := sm) (S' := S2 ++ [sm]) (S'' := s0 :: S2) rfl (by simp) hlt
      unfold hullG
      rw [if_neg hne, h1, h2]
      rfl
/-! ## a row sorted, its doubles taken out -/
def compactS : List P2 → List P2
  | a :: b :: t => if a = b then compactS (b :: t) else a :: compactS (b :: t)
  | l => l
theorem compact_mem : ∀ (l : List P2) (x : P2), x ∈ compactS l ↔ x ∈ l
  | [], _ => Iff.rfl
  | [_], _ => Iff.rfl
  | a :: b :: t, x => by
    unfold compactS
    split
    · next h => subst h; rw [compact_mem (a :: t) x]; simp
    · rw [List.mem_cons, compact_mem (b :: t) x]; simp
theorem compact_sorted : ∀ (l : List P2), l.Pairwise (fun a b => ¬ ltS b a) → (compactS l).Pairwise ltS
  | [], _ => List.Pairwise.nil
  | [_], _ => by simp [compactS]
  | a :: b :: t, h => by
    have ht := compact_sorted (b :: t) (List.pairwise_cons.1 h).2
    unfold compactS
    split
    · exact ht
    · next hab =>
      refine List.Pairwise.cons (fun x hx => ?_) ht
      rw [compact_mem] at hx
      rw [List.pairwise_cons] at h
      have hb : ltS a b := by
        rcases lt_tri a b with k | k | k
        · exact k
        · exact absurd k hab
        · exact absurd k (h.1 b (by simp))
      rcases List.mem_cons.1 hx with rfl | hx
      · exact hb
      · rcases lt_tri b x with k | rfl | k
        · exact lt_trans hb k
        · exact hb
        · exact absurd k ((List.pairwise_cons.1 h.2).1 x hx)
end Go.Proofs.Ythfeamlioiaebaa
