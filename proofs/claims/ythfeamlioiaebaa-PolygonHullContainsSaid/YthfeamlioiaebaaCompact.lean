/- slices.Compact at points. -/
import Derived.Test.YthfeamlioiaebaaApp2
import Derived.Test.YthfeamlioiaebaaHullLaw2
import Derived.Test.YthfeamlioiaebaaFlat
set_option linter.unusedVariables false
set_option linter.unusedSimpArgs false
namespace Go.Proofs.Ythfeamlioiaebaa
open Go.RowKit Go.Par Go.Sort

theorem compact_snoc : ∀ (xs : List P2) (a b : P2), compactS (xs ++ [a, b]) = if a = b then compactS (xs ++ [a]) else compactS (xs ++ [a]) ++ [b]
  | [], a, b => by
    show compactS [a, b] = _
    unfold compactS
    split
    · next h => subst h; rfl
    · rfl
  | [x], a, b => by
    show compactS [x, a, b] = if a = b then compactS [x, a] else compactS [x, a] ++ [b]
    by_cases h1 : x = a <;> by_cases h2 : a = b <;> simp [compactS, h1, h2]
  | x :: y :: xs, a, b => by
    have ih := compact_snoc (y :: xs) a b
    simp only [List.cons_append] at ih ⊢
    rw [compactS, compactS, ih]
    split <;> split <;> simp
theorem compact_step {l : List P2} {k : Nat} {a b : P2} (hk : 1 ≤ k) (ha : l[k - 1]? = some a) (hb : l[k]? = some b) : compactS (l.take (k + 1)) = if a = b then compactS (l.take k) else compactS (l.take k) ++ [b] := by
  have h1 := take_snoc hb
  have h2 := take_snoc ha
  rw [show k - 1 + 1 = k by omega] at h2
  rw [h1, h2, List.append_assoc]
  exact compact_snoc _ a b
theorem own_beyond {w : World} {B g n cap : Nat} {l : List P2} (h : Own w B (.slice (some ⟨g, 0, none⟩) n cap) l) (vs : List Value) (o : Nat) (ho : n * 2 ≤ o) : Own (w.setCells g o vs) B (.slice (some ⟨g, 0, none⟩) n cap) l := by
  obtain ⟨cur, hl, hb, hg, hcap, hm, hs, ht⟩ := own_open h
  refine own_mk hl hb (box_setCells vs o cur w hg) hcap hm (by rw [putL_size]; exact hs) fun j v hv => ?_
  have hj := (List.getElem?_eq_some_iff.1 hv).1
  rw [ptCells_length, ← hl] at hj
  rw [putL_get, if_neg (by omega)]
  exact own_cell h hg hv
/-- a row's points, to be read and written -/
theorem own_pt {w : World} {B g n cap : Nat} {l : List P2} (h : Own w B (.slice (some ⟨g, 0, none⟩) n cap) l) {k : Nat} {p : P2} (hp : l[k]? = some p) :
    (w.cell? ⟨g, k * 2, none⟩ = some (.int .i64 p.1) ∧ w.cell? ⟨g, k * 2 + 1, none⟩ = some (.int .i64 p.2)) ∧ (w.frozen? ⟨g, k * 2, none⟩ = false ∧ w.frozen? ⟨g, k * 2 + 1, none⟩ = false) := by
  obtain ⟨cur, hl, hb, hg, hcap, hm, hs, ht⟩ := own_open h
  have hB : Box w g 24 cur := hg
  have hc := ptCells_at hp
  rw [hB.cell, hB.cell, hB.frozen, hB.frozen]
  exact ⟨⟨own_cell h hg hc.1, own_cell h hg hc.2⟩, rfl, rfl⟩
theorem sCompact_small (A : Option Addr) (c n : Nat) (w : World) (hn : n < 2) :
    Calls Try.prog 81 #[.slice A n c] w fun e w' => e = .returned (.slice A n c) ∧ w = w' := by
  have d0 : (n : Int) < 2 := by omega
  go_enter Try.func81, Try.ntmps81
  go_wp2
  go_ret
  exact ⟨rfl, rfl⟩
set_option maxRecDepth 100000 in
set_option maxHeartbeats 800000 in
theorem sCompact_any {w : World} {B g n cap : Nat} {l : List P2} (hown : Own w B (.slice (some ⟨g, 0, none⟩) n cap) l) (hn : n ≤ 1000000) :
    Calls Try.prog 81 #[.slice (some ⟨g, 0, none⟩) n cap] w fun e w' => ∃ m, e = .returned (.slice (some ⟨g, 0, none⟩) m cap) ∧ Own w' B (.slice (some ⟨g, 0, none⟩) m cap) (compactS l) ∧ But g w w' := by
  have hl := (own_open hown).choose_spec.1
  have hcap := (own_open hown).choose_spec.2.2.2.1
  have HN := Lib.hid hl
  by_cases h2 : n < 2
  · have e : compactS l = l := by
      match l, hl with
      | [], _ => rfl
      | [_], _ => rfl
      | _ :: _ :: _, h => simp at h; omega
    rw [e]
    exact (sCompact_small _ _ n w h2).mono fun e w' ⟨h1, h2⟩ => ⟨n, h1, by subst h2; exact ⟨hown, But.refl _ _⟩⟩
  · have d0 : ¬ (n : Int) < 2 := by omega
    clear hl
    have hcapm : (cap : Int) ≤ 9223372036854775807 := by
      have := (own_open hown).choose_spec.2.2.2.2.1
      unfold maxLen at this
      omega
    go_enter Try.func81, Try.ntmps81
    go_wp2_with fail
    go_loopw [3, 4, 5] (fun i _ _ wr => ∃ k : Nat, 1 ≤ k ∧ k ≤ n ∧ i = .int .i64 k ∧ But g w wr ∧ Own wr B (.slice (some ⟨g, 0, none⟩) n cap) l ∧ Hid (compactS (l.take k) = l.take k)) (fun i _ _ _ => n - (intOf i).toNat)
    case atStart => exact ⟨1, Nat.le_refl _, by omega, rfl, But.refl _ _, hown, Lib.hid (by
      cases l with
      | nil => rfl
      | cons x t => rfl)⟩
    case round =>
      clear hown
      obtain ⟨k, hk1, hk, rfl, hbut, hown, HK⟩ := hrel
      by_cases hlt : k < n
      · obtain ⟨k1, hkk⟩ : ∃ k1, k1 = k - 1 := ⟨_, rfl⟩
        obtain ⟨⟨a1, a2⟩, hla⟩ : ∃ q, l[k1]? = some q := ⟨_, List.getElem?_eq_getElem (by rw [← HN.out]; omega)⟩
        obtain ⟨⟨b1, b2⟩, hlb⟩ : ∃ q, l[k]? = some q := ⟨_, List.getElem?_eq_getElem (by rw [← HN.out]; exact hlt)⟩
        have hst := compact_step hk1 (by rw [← hkk]; exact hla) hlb
        rw [HK.out] at hst
        have HST := Lib.hid hst
        have HTK := Lib.hid (take_snoc hlb)
        have x0 := (own_pt hown hla).1.1
        have x1 := (own_pt hown hla).1.2
        have y0 := (own_pt hown hlb).1.1
        have y1 := (own_pt hown hlb).1.2
        have w1 : IntKind.i64.wrap ((k : Int) - 1) = (k1 : Int) := (IntWalk.i64_in _ (by omega)).trans (by omega)
        have n1 : k1 < n := by omega
        have HKK := Lib.hid hkk
        have HK1 := Lib.hid hk1
        clear hla hlb hst hkk hk1
        go_wp2_with fail
        apply wp_region_par' 10 (by kernel_rfl) (by kernel_rfl) rfl
        simp only [List.take_succ_cons, List.take_zero, List.drop_succ_cons, List.drop_zero]
        generalize hW : World.drew _ = W
        have hEW : Ext wr W := by rw [← hW]; exact Ext.drew _
        clear hW
        have e0 := fun z : Later W => z.cell (hEW.cell x0)
        have e1 := fun z : Later W => z.cell (hEW.cell x1)
        have e2 := fun z : Later W => z.cell (hEW.cell y0)
        have e3 := fun z : Later W => z.cell (hEW.cell y1)
        clear x0 x1 y0 y1
        iterate 10
          refine parW_step rfl (fun K hK => ?_)
          apply Exists.intro
          refine ⟨fun z => ?_, ?_⟩
          focus
            go_simp
            first
              | rfl
              | fail
          go_simp
          refine hK _ ?_
          clear hK K
        refine parW_end (fun z => ?_)
        have hEz := hEW.later z
        clear e0 e1 e2 e3
        generalize z.val = Z at *
        clear z hEW
        replace hown := hown.ext hEz
        replace hbut := hbut.trans (But.of_ext hEz)
        clear hEz
        by_cases hab : b1 = a1 ∧ b2 = a2
        · have HD := Lib.hid (show compactS (l.take (k + 1)) = l.take k from by rw [HST.out, if_pos (by rw [hab.1, hab.2])])
          have d1 : (decide (b1 = a1) && decide (b2 = a2)) = true := by simp [hab.1, hab.2]
          rw [d1]
          clear d1
          obtain ⟨rfl, rfl⟩ := hab
          have n3 : k ≤ n := hk
          have n4 : k ≤ cap := by omega
          have n5 : (cap = k) = False := eq_false (by omega)
          clear HST w1
          go_wp2_with fail
          generalize hm : n - k = m at *
          generalize hcp : cap - k = cp at *
          have HMM := Lib.hid hm
          have m0 : m ≤ 1000000 := by omega
          have m1 : 0 < m := by omega
          clear hm hcp
          generalize wr = wo at *
          go_loopw [3, 5] (fun t i wr => ∃ (kk k2 : Nat) (cont : List P2), 1 ≤ k2 ∧ k2 ≤ m ∧ t = .int .i64 kk ∧ i = .int .i64 k2 ∧ Own wr B (.slice (some ⟨g, 0, none⟩) n cap) cont ∧ But g w wr ∧
            Hid (1 ≤ kk ∧ kk ≤ k + k2 - 1 ∧ cont.length = n ∧ cont.take kk = compactS (l.take (k + k2)) ∧ ∀ j, k + k2 - 1 ≤ j → cont[j]? = l[j]?)) (fun _ i _ => m - (intOf i).toNat)
          case atStart => exact ⟨k, 1, l, Nat.le_refl _, m1, rfl, rfl, hown, hbut, Lib.hid ⟨HK1.out, by omega, HN.out.symm, HD.out.symm, fun j _ => rfl⟩⟩
          case round =>
            clear hown hbut
            obtain ⟨kk, k2, cont, hk21, hk2, rfl, rfl, hown, hbut, HC⟩ := hrel
            have hkk := HC.out.2.1
            have hcl := HC.out.2.2.1
            have hnk : m + k = n := by have := HMM.out; omega
            by_cases hlt2 : k2 < m
            · obtain ⟨k21, hk2'⟩ : ∃ k21, k21 = k2 - 1 := ⟨_, rfl⟩
              obtain ⟨⟨c1, c2⟩, hlc⟩ : ∃ q, l[k + k21]? = some q := ⟨_, List.getElem?_eq_getElem (by rw [← HN.out]; omega)⟩
              obtain ⟨⟨q1, q2⟩, hlq⟩ : ∃ q, l[k + k2]? = some q := ⟨_, List.getElem?_eq_getElem (by rw [← HN.out]; omega)⟩
              obtain ⟨⟨o1, o2⟩, hlo⟩ : ∃ q, cont[kk]? = some q := ⟨_, List.getElem?_eq_getElem (by rw [hcl]; omega)⟩
              have hst := compact_step (l := l) (k := k + k2) (by omega) (by rw [show k + k2 - 1 = k + k21 by omega]; exact hlc) hlq
              have hcc := own_pt hown (k := k + k21) (by rw [HC.out.2.2.2.2 _ (by omega)]; exact hlc)
              have hcq := own_pt hown (k := k + k2) (by rw [HC.out.2.2.2.2 _ (by omega)]; exact hlq)
              rw [show (k + k21) * 2 = k * 2 + k21 * 2 by omega] at hcc
              rw [show (k + k2) * 2 = k * 2 + k2 * 2 by omega] at hcq
              have x0 := hcc.1.1
              have x1 := hcc.1.2
              have y0 := hcq.1.1
              have y1 := hcq.1.2
              have w1 : IntKind.i64.wrap ((k2 : Int) - 1) = (k21 : Int) := (IntWalk.i64_in _ (by omega)).trans (by omega)
              have n6 : k21 < m := by omega
              have n7 : kk < n := by omega
              have HST := Lib.hid hst
              have HCQ := Lib.hid hcq
              have HLO := Lib.hid hlo
              have HLQ := Lib.hid hlq
              have HKK := Lib.hid hkk
              have HCL := Lib.hid hcl
              clear hst hcc hcq hlc hlq hlo hk2' hkk hcl hnk
              go_wp2_with fail
              apply wp_region_par' 10 (by kernel_rfl) (by kernel_rfl) rfl
              simp only [List.take_succ_cons, List.take_zero, List.drop_succ_cons, List.drop_zero]
              generalize hW : World.drew _ = W
              have hEW : Ext wr W := by rw [← hW]; exact Ext.drew _
              clear hW
              have e0 := fun z : Later W => z.cell (hEW.cell x0)
              have e1 := fun z : Later W => z.cell (hEW.cell x1)
              have e2 := fun z : Later W => z.cell (hEW.cell y0)
              have e3 := fun z : Later W => z.cell (hEW.cell y1)
              clear x0 x1 y0 y1
              iterate 10
                refine parW_step rfl (fun K hK => ?_)
                apply Exists.intro
                refine ⟨fun z => ?_, ?_⟩
                focus
                  go_simp
                  first
                    | rfl
                    | fail
                go_simp
                refine hK _ ?_
                clear hK K
              refine parW_end (fun z => ?_)
              have hEz := hEW.later z
              clear e0 e1 e2 e3
              replace hown := hown.ext hEz
              replace hbut := hbut.trans (But.of_ext hEz)
              have y0 := hEz.cell HCQ.out.1.1
              have y1 := hEz.cell HCQ.out.1.2
              have ho := own_pt hown HLO.out
              have r0 := ho.1.1
              have r1 := ho.1.2
              have r2 := ho.2.1
              have r3 := ho.2.2
              clear hEz ho
              generalize z.val = Z at *
              clear z hEW
              by_cases hqc : q1 = c1 ∧ q2 = c2
              · have HD := Lib.hid (show compactS (l.take (k + k2 + 1)) = compactS (l.take (k + k2)) from by rw [HST.out, if_pos (by rw [hqc.1, hqc.2])])
                have d1 : (!decide (q1 = c1) || !decide (q2 = c2)) = false := by simp [hqc.1, hqc.2]
                rw [d1]
                clear d1
                obtain ⟨rfl, rfl⟩ := hqc
                clear y0 y1 r0 r1 r2 r3 w1 HST
                go_wp2
                go_roundw
                case rel => exact ⟨kk, k2 + 1, cont, by omega, by omega, rfl, by go_num, hown, hbut, Lib.hid ⟨HC.out.1, by have := HKK.out; omega, HC.out.2.2.1, by rw [HC.out.2.2.2.1]; exact HD.out.symm, fun j hj => HC.out.2.2.2.2 j (by omega)⟩⟩
                case measure => simp [intOf]; omega
              · have hne : ¬ (c1, c2) = (q1, q2) := fun e => hqc (by injection e with e1 e2; exact ⟨e1.symm, e2.symm⟩)
                have HD := Lib.hid (show compactS (l.take (k + k2 + 1)) = compactS (l.take (k + k2)) ++ [(q1, q2)] from by rw [HST.out, if_neg hne])
                have d1 : (!decide (q1 = c1) || !decide (q2 = c2)) = true := by
                  by_cases h1 : q1 = c1
                  · rw [decide_eq_false (p := q2 = c2) (fun h2 => hqc ⟨h1, h2⟩)]; simp
                  · rw [decide_eq_false (p := q1 = c1) h1]; rfl
                have hset := own_set hown kk n7 q1 q2
                have hbs := (hbut.set (kk * 2) (.int .i64 q1)).set (kk * 2 + 1) (.int .i64 q2)
                have HNEW := Lib.hid (show 1 ≤ kk + 1 ∧ kk + 1 ≤ k + (k2 + 1) - 1 ∧ (cont.set kk (q1, q2)).length = n ∧ (cont.set kk (q1, q2)).take (kk + 1) = compactS (l.take (k + (k2 + 1))) ∧ ∀ j, k + (k2 + 1) - 1 ≤ j → (cont.set kk (q1, q2))[j]? = l[j]? from by
                  have h1 := HC.out.2.1
                  have h2 := HC.out.2.2.1
                  refine ⟨by omega, by omega, by rw [List.length_set]; exact h2, ?_, fun j hj => ?_⟩
                  · have e : (cont.set kk (q1, q2))[kk]? = some (q1, q2) := by rw [List.getElem?_set_self (by omega)]
                    rw [take_snoc e, List.take_set_of_le (Nat.le_refl _), HC.out.2.2.2.1, ← Nat.add_assoc, HD.out]
                  · rw [List.getElem?_set_ne (by omega)]
                    exact HC.out.2.2.2.2 j (by omega))
                clear hne hqc w1 HST hown hbut
                rw [d1]
                clear d1
                go_wp2
                go_roundw
                case rel => exact ⟨kk + 1, k2 + 1, cont.set kk (q1, q2), by omega, by omega, by go_num, by go_num, hset, hbs, HNEW⟩
                case measure => simp [intOf]; omega
            · have e2 : k2 = m := by omega
              subst e2
              have hkm : k + k2 = n := by have := HMM.out; omega
              have hfin : l.take (k + k2) = l := List.take_of_length_le (by rw [← HN.out]; omega)
              have hcf := HC.out.2.2.2.1
              rw [hfin] at hcf
              have hk1 := HC.out.1
              obtain ⟨cur, hx1, hx2, hg, hx3, hx4, hs, hx5⟩ := own_open hown
              have hB : Box wr g 24 cur := hg
              have hcut := own_cut hown (k := kk) (by omega)
              rw [hcf] at hcut
              have hbey := own_beyond hcut (List.replicate ((n - kk) * 2) (.int .i64 0)) (kk * 2) (Nat.le_refl _)
              have hbb := but_setCells (List.replicate ((n - kk) * 2) (.int .i64 0)) (kk * 2) wr hbut
              have hcl2 : ∀ ty, (Builtin.clear_ #[38] ty #[.slice (some ⟨g, kk * 2, none⟩) (n - kk) (cap - kk)]).run Try.prog wr = .ok (.tuple #[]) (wr.setCells g (kk * 2) (List.replicate ((n - kk) * 2) (.int .i64 0))) :=
                fun ty => run_clear_pts wr ty g _ _ _ (by omega) (fun t ht => by rw [hB.cell, Array.getElem?_eq_getElem (by omega)]; rfl) (fun t ht => hB.frozen _)
              have p1 : kk ≤ n := by omega
              have p2 : kk ≤ cap := by omega
              have p3 : (cap = kk) = False := eq_false (by omega)
              have HBE := Lib.hid hbey
              have HBB := Lib.hid hbb
              clear hbey hbb hcut hcf hfin hkm hs hB hg hx1 hx2 hx3 hx4 hx5 hown hbut hkk hcl hnk
              go_wp2
              go_ret
              exact ⟨kk, rfl, HBE.out, HBB.out⟩
        · have hne : ¬ (a1, a2) = (b1, b2) := fun e => hab (by injection e with e1 e2; exact ⟨e1.symm, e2.symm⟩)
          have HD := Lib.hid (show compactS (l.take (k + 1)) = l.take (k + 1) from by rw [HST.out, if_neg hne, HTK.out])
          have d1 : (decide (b1 = a1) && decide (b2 = a2)) = false := by
            rw [Bool.and_eq_false_iff]
            by_cases h1 : b1 = a1
            · exact .inr (decide_eq_false fun h2 => hab ⟨h1, h2⟩)
            · exact .inl (decide_eq_false h1)
          have d2 : decide (b1 = a1 ∧ b2 = a2) = false := decide_eq_false hab
          have d3 : (b1 = a1 ∧ b2 = a2) = False := eq_false hab
          clear hne hab w1
          rw [d1]
          clear d1 d2 d3
          go_wp2
          go_roundw
          case rel => exact ⟨k + 1, by omega, by omega, by go_num, hbut, hown, HD⟩
          case measure => simp [intOf]; omega
      · have hfin : l.take k = l := List.take_of_length_le (by rw [← HN.out]; omega)
        have hcc := HK.out
        rw [hfin] at hcc
        have HC := Lib.hid hcc
        clear hfin hcc
        go_wp2
        go_ret
        exact ⟨n, rfl, by rw [HC.out]; exact hown, hbut⟩
end Go.Proofs.Ythfeamlioiaebaa
