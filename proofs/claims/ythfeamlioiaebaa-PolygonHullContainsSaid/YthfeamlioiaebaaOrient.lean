/- Reverse and Orient in the program and in the reference; rings compared. -/
import Derived.Test.YthfeamlioiaebaaRev
set_option linter.unusedVariables false
set_option linter.unusedSimpArgs false
namespace Go.Proofs.Ythfeamlioiaebaa
open Go.RowKit Go.Par Go.Sort

/-- the first point stays, the others the other way round -/
def revS (l : List P2) : List P2 := l.take 1 ++ (l.drop 1).reverse
def orientL (l : List P2) : List P2 := if areaS l = 0 then [] else if areaS l < 0 then revS l else l
theorem revS_length (l : List P2) : (revS l).length = l.length := by
  unfold revS
  rw [List.length_append, List.length_take, List.length_reverse, List.length_drop]
  omega
theorem revS_at {l : List P2} {k : Nat} (hk : k < l.length) : (revS l)[k]? = l[(l.length - k) % l.length]? := by
  unfold revS
  cases k with
  | zero =>
    rw [Nat.sub_zero, Nat.mod_self, List.getElem?_append_left (by rw [List.length_take]; omega), List.getElem?_take, if_pos (by omega)]
  | succ k =>
    rw [List.getElem?_append_right (by rw [List.length_take]; omega), List.length_take, show k + 1 - min 1 l.length = k by omega, List.getElem?_reverse (by rw [List.length_drop]; omega), List.length_drop, List.getElem?_drop, Nat.mod_eq_of_lt (by omega)]
    congr 1
    omega
theorem sReverse_empty (A : Option Addr) (c : Nat) (w : World) : Calls Try.prog 68 #[.slice A 0 c] w fun e w' => e = .returned (.tuple #[]) ∧ w = w' :=
  Calls.mono (AnyQ.slices_Reverse_empty Try.reversePt A c w) fun e w' ⟨h1, h2⟩ => ⟨h1, h2.symm⟩
theorem Own.head {w : World} {B : Nat} {v : Value} {l : List P2} (h : Own w B v l) (hl : 0 < l.length) : ∃ g cap, v = .slice (some ⟨g, 0, none⟩) l.length cap ∧ B ≤ g ∧ l.length ≤ cap := by
  rcases h.2 with ⟨e, h0⟩ | ⟨g, cap, cur, e, hb, hg, h1, h2, h3, h4⟩
  · omega
  · exact ⟨g, cap, e, hb, h1⟩
theorem Own.base {w : World} {B B' g n cap : Nat} {l : List P2} (h : Own w B (.slice (some ⟨g, 0, none⟩) n cap) l) (hb : B' ≤ g) : Own w B' (.slice (some ⟨g, 0, none⟩) n cap) l := by
  refine ⟨h.1, ?_⟩
  rcases h.2 with ⟨e, h0⟩ | ⟨g', cap', cur, e, _, h2⟩
  · exact .inl ⟨e, h0⟩
  · have : g = g' := by
      simp only [Value.slice.injEq, Option.some.injEq, Addr.mk.injEq] at e
      exact e.1.1
    exact .inr ⟨g', cap', cur, e, by omega, h2⟩
/-- the call of slices.Reverse on 'out[1:]' -/
theorem tail_reverse {w : World} {B g n cap : Nat} {l : List P2} (h : Own w B (.slice (some ⟨g, 0, none⟩) n cap) l) (h0 : 0 < n) (hn : n ≤ 1000000) :
    Calls Try.prog 68 #[.slice (if cap = 1 then some ⟨g, 0, none⟩ else some ⟨g, 2, none⟩) (n - 1) (cap - 1)] w fun e w' => e = .returned (.tuple #[]) ∧ Own w' B (.slice (some ⟨g, 0, none⟩) n cap) (revS l) ∧ But g w w' := by
  by_cases hc : cap = 1
  · obtain ⟨cur, e1, _, _, e2, _⟩ := own_open h
    have hn1 : n = 1 := by omega
    subst hn1
    refine Calls.mono (sReverse_empty _ _ _) ?_
    rintro e w' ⟨rfl, rfl⟩
    refine ⟨rfl, ?_, But.refl _ _⟩
    have : revS l = l := by
      unfold revS
      rw [List.drop_eq_nil_of_le (by omega), List.take_of_length_le (by omega)]
      simp
    rw [this]
    exact h
  · rw [if_neg hc]
    exact sReverse_any h 1 (cap - 1) h0 hn
set_option maxRecDepth 100000 in
set_option maxHeartbeats 400000 in
theorem pReverse_any (l : List P2) (A : Option Addr) (c n : Nat) (w : World) (hn : n = l.length) (hlc : n ≤ c) (hc : n ≤ 1000000) (hP : PtsAt w A l) :
    Calls Try.prog 42 #[.slice A n c] w fun e w' => ∃ v, e = .returned v ∧ Ext w w' ∧ Own w' w.heap.size v (revS l) := by
  have HN := Lib.hid hn
  by_cases h0 : n = 0
  · have e : l = [] := List.eq_nil_of_length_eq_zero (by rw [← HN.out]; exact h0)
    subst h0
    clear hn
    go_enter Try.func42, Try.ntmps42
    go_wp2
    go_ret
    subst e
    exact ⟨_, rfl, Ext.refl w, Own.nil w _⟩
  · have hn0 : 0 < n := by omega
    have d0 : ((n : Int) == 0) = false := by rw [beq_eq_false_iff_ne]; omega
    have HC := Lib.hid (Clone_any l A c w (by rw [← hn]; exact hlc) (by rw [← hn]; exact hc) hP)
    rw [← hn] at HC
    clear hn
    go_enter Try.func42, Try.ntmps42
    go_wp2_with fail
    refine HC.out.mono ?_
    rintro e w1 ⟨v, rfl, hE, hown⟩
    obtain ⟨g, cap, rfl, hg, hcap⟩ := hown.head (by rw [← HN.out]; exact hn0)
    rw [← HN.out] at hown hcap
    rw [← HN.out]
    have HT := Lib.hid (tail_reverse hown hn0 hc)
    have h1n : 1 ≤ n := hn0
    clear hown
    by_cases h1 : cap = 1
    · subst h1
      clear hcap
      have HT' := HT.out
      rw [if_pos rfl, Nat.sub_self] at HT'
      have HU := Lib.hid HT'
      clear HT' HT
      go_wp2_with fail
      refine HU.out.mono ?_
      rintro e w2 ⟨rfl, hown2, hbut⟩
      go_wp2
      go_ret
      exact ⟨_, rfl, hE.but hbut hg, hown2⟩
    · have HT' := HT.out
      rw [if_neg h1] at HT'
      have HU := Lib.hid HT'
      clear HT' HT
      go_wp2_with fail
      refine HU.out.mono ?_
      rintro e w2 ⟨rfl, hown2, hbut⟩
      go_wp2
      go_ret
      exact ⟨_, rfl, hE.but hbut hg, hown2⟩
set_option maxRecDepth 100000 in
set_option maxHeartbeats 400000 in
theorem Orient_poly (l : List P2) (A : Option Addr) (c n : Nat) (w : World) (hn : n = l.length) (hlc : n ≤ c) (hc : n ≤ 1000000) (hP : PtsAt w A l) :
    Calls Try.prog 34 #[.slice A n c] w fun e w' => ∃ v, e = .returned v ∧ Ext w w' ∧ Own w' w.heap.size v (orientL l) := by
  have HN := Lib.hid hn
  have HD := Lib.hid (DoubleArea_any l A c n w hn hlc (by omega) hP)
  have HC := Lib.hid (fun W (h : Ext w W) => Clone_any l A c W (by rw [← hn]; exact hlc) (by rw [← hn]; exact hc) (hP.ext h))
  rw [← hn] at HC
  have hne : areaS l ≠ 0 → 0 < n := fun h => by
    rw [hn]
    cases l with
    | nil => exact absurd rfl h
    | cons p t => simp
  have HO := Lib.hid (show orientL l = if areaS l = 0 then [] else if areaS l < 0 then revS l else l from rfl)
  generalize areaS l = a at *
  clear hn
  by_cases ha : a = 0
  · subst ha
    have E := Lib.hid (show orientL l = [] from HO.out)
    go_enter Try.func34, Try.ntmps34
    go_wp2_with fail
    refine HD.out.mono ?_
    rintro e w1 ⟨rfl, hE⟩
    go_wp2
    go_ret
    exact ⟨_, rfl, hE, by rw [E.out]; exact Own.nil w1 _⟩
  · have hn0 := hne ha
    have d0 : (a == 0) = false := by rw [beq_eq_false_iff_ne]; exact ha
    clear hne
    by_cases hneg : a < 0
    · have E := Lib.hid (show orientL l = revS l from by rw [HO.out, if_neg ha, if_pos hneg])
      go_enter Try.func34, Try.ntmps34
      go_wp2_with fail
      refine HD.out.mono ?_
      rintro e w1 ⟨rfl, hE⟩
      go_wp2_with fail
      refine (HC.out _ hE).mono ?_
      rintro e w2 ⟨v, rfl, hE2, hown⟩
      obtain ⟨g, cap, rfl, hg, hcap⟩ := hown.head (by rw [← HN.out]; exact hn0)
      rw [← HN.out] at hown hcap
      rw [← HN.out]
      have HT := Lib.hid (tail_reverse hown hn0 hc)
      have h1n : 1 ≤ n := hn0
      have hE3 := hE.trans hE2
      have hg' : w.heap.size ≤ g := Nat.le_trans hE.size hg
      clear hown hE hE2
      by_cases h1 : cap = 1
      · subst h1
        clear hcap
        have HT' := HT.out
        rw [if_pos rfl, Nat.sub_self] at HT'
        have HU := Lib.hid HT'
        clear HT' HT
        go_wp2_with fail
        refine HU.out.mono ?_
        rintro e w3 ⟨rfl, hown2, hbut⟩
        go_wp2
        go_ret
        exact ⟨_, rfl, hE3.but hbut hg', by rw [E.out]; exact hown2.base hg'⟩
      · have HT' := HT.out
        rw [if_neg h1] at HT'
        have HU := Lib.hid HT'
        clear HT' HT
        go_wp2_with fail
        refine HU.out.mono ?_
        rintro e w3 ⟨rfl, hown2, hbut⟩
        go_wp2
        go_ret
        exact ⟨_, rfl, hE3.but hbut hg', by rw [E.out]; exact hown2.base hg'⟩
    · have E := Lib.hid (show orientL l = l from by rw [HO.out, if_neg ha, if_neg hneg])
      go_enter Try.func34, Try.ntmps34
      go_wp2_with fail
      refine HD.out.mono ?_
      rintro e w1 ⟨rfl, hE⟩
      go_wp2_with fail
      refine (HC.out _ hE).mono ?_
      rintro e w2 ⟨v, rfl, hE2, hown⟩
      obtain ⟨g, cap, rfl, hg, hcap⟩ := hown.head (by rw [← HN.out]; exact hn0)
      have hE3 := hE.trans hE2
      have hg' : w.heap.size ≤ g := Nat.le_trans hE.size hg
      go_wp2
      go_ret
      exact ⟨_, rfl, hE3, by rw [E.out]; exact hown.base hg'⟩
end Go.Proofs.Ythfeamlioiaebaa
