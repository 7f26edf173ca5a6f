/- polygon.chain: one side of a hull. -/
import Derived.Test.YthfeamlioiaebaaHullLaw2
import Derived.Test.YthfeamlioiaebaaApp2
import Derived.Test.YthfeamlioiaebaaOrient
import Derived.Test.YthfeamlioiaebaaSimpl
set_option linter.unusedVariables false
set_option linter.unusedSimpArgs false
namespace Go.Proofs.Ythfeamlioiaebaa
open Go.RowKit Go.Par

theorem pop_len (p : P2) : ∀ (st : List P2), (popS p st).length ≤ st.length
  | [] => Nat.le_refl _
  | [_] => Nat.le_refl _
  | b :: a :: t => by
    unfold popS
    split
    · exact Nat.le_trans (pop_len p (a :: t)) (Nat.le_succ _)
    · exact Nat.le_refl _
theorem chain_snoc {l : List P2} {k : Nat} {p : P2} (h : l[k]? = some p) : chainR (l.take (k + 1)) = p :: popS p (chainR (l.take k)) := by
  unfold chainR
  rw [take_snoc h, List.foldl_append]
  rfl
theorem chain_len (l : List P2) : (chainR l).length ≤ l.length := by
  unfold chainR
  have : ∀ (l st : List P2), (l.foldl (fun st p => p :: popS p st) st).length ≤ st.length + l.length := by
    intro l
    induction l with
    | nil => intro st; exact Nat.le_refl _
    | cons p l ih =>
      intro st
      rw [List.foldl_cons]
      have := ih (p :: popS p st)
      have h2 := pop_len p st
      simp only [List.length_cons] at this ⊢
      omega
  simpa using this l []
theorem pop_small {p : P2} {st : List P2} (h : st.length < 2) : popS p st = st := by
  match st, h with
  | [], _ => rfl
  | [_], _ => rfl
set_option maxRecDepth 100000 in
set_option maxHeartbeats 800000 in
theorem chain_any (l : List P2) (A : Option Addr) (c n : Nat) (w : World) (hn : n = l.length) (hc : n ≤ 1000000) (hP : PtsAt w A l) (hv : ∀ p ∈ l, validS p = true) :
    Calls Try.prog 82 #[.slice A n c] w fun e w' => ∃ v, e = .returned v ∧ Ext w w' ∧ Own w' w.heap.size v (chainR l).reverse := by
  have HN := Lib.hid hn
  have HV := Lib.hid (fun k p (h : l[k]? = some p) => hv p (List.mem_of_getElem? h))
  clear hn hv
  go_enter Try.func82, Try.ntmps82
  go_wp2_with fail
  go_loopw [3, 5, 8] (fun s _ i wr => ∃ k : Nat, k ≤ n ∧ i = .int .i64 k ∧ Ext w wr ∧ Own wr w.heap.size s (chainR (l.take k)).reverse ∧ Hid (∀ x ∈ chainR (l.take k), validS x = true)) (fun _ _ i _ => n - (intOf i).toNat)
  case atStart => exact ⟨0, Nat.zero_le _, rfl, Ext.refl w, Own.nil w _, Lib.hid (fun x hx => by cases hx)⟩
  case round =>
    obtain ⟨k, hk, rfl, hE, hown, HCV⟩ := hrel
    by_cases hlt : k < n
    · obtain ⟨⟨p1, p2⟩, hlk⟩ : ∃ q, l[k]? = some q := ⟨_, List.getElem?_eq_getElem (by rw [← HN.out]; exact hlt)⟩
      have HVP := Lib.hid (HV.out k _ hlk)
      have HST := Lib.hid (chain_snoc hlk)
      obtain ⟨b, o, rfl, hcell⟩ := hP (fun e => by rw [e] at hlk; simp at hlk)
      have x0 := hE.cell (hcell k _ hlk).1
      have x1 := hE.cell (hcell k _ hlk).2
      have hcl := chain_len (l.take k)
      rw [List.length_take] at hcl
      have hcl' : (chainR (l.take k)).length ≤ n := by omega
      obtain ⟨st0, hst0⟩ : ∃ st0, st0 = chainR (l.take k) := ⟨_, rfl⟩
      rw [← hst0] at hown hcl'
      have HS0 := Lib.hid hst0
      clear hlk hcell hcl hst0
      go_wp2_with fail
      have hB := Box.new wr 24 #[.int .i64 p1, .int .i64 p2]
      have hE1 := hE.trans (Ext.alloc wr (.cells #[.int .i64 p1, .int .i64 p2] 24))
      replace hown := hown.ext (Ext.alloc wr (.cells #[.int .i64 p1, .int .i64 p2] 24))
      have hsz := hE1.size
      clear hE x0 x1
      generalize hW1 : wr.alloc (.cells #[.int .i64 p1, .int .i64 p2] 24) = W1 at *
      generalize hbp : wr.heap.size = bp at *
      clear hW1 hbp wr
      go_loopw [3] (fun s wr => ∃ st : List P2, Hid (popS (p1, p2) st = popS (p1, p2) st0) ∧ st.length ≤ n ∧ Hid (∀ x ∈ st, validS x = true) ∧ Ext W1 wr ∧ Own wr w.heap.size s st.reverse) (fun s _ => slLen s)
      case atStart => exact ⟨st0, Lib.hid rfl, hcl', Lib.hid (by rw [HS0.out]; exact HCV.out), Ext.refl _, hown⟩
      case round =>
        obtain ⟨st, HPOP, hstn, HSV, hE2, hown2⟩ := hrel
        clear hown hcl'
        obtain ⟨m, hm⟩ : ∃ m, m = st.length := ⟨_, rfl⟩
        have HM := Lib.hid hm
        have hrl : st.reverse.length = m := by rw [List.length_reverse]; exact hm.symm
        have HRL := Lib.hid hrl
        rw [← hm] at hstn
        have fp := (hB.ext hE2).cell
        have hE3 := hE1.trans hE2
        have hsz3 := hE3.size
        by_cases h2 : 2 ≤ m
        · obtain ⟨b', a', t, hst⟩ : ∃ b' a' t, st = b' :: a' :: t := by
            match st, hm with
            | [], h => simp at h; omega
            | [_], h => simp at h; omega
            | b' :: a' :: t, _ => exact ⟨b', a', t, rfl⟩
          obtain ⟨g, cap, rfl, hg, hcap⟩ := hown2.head (by rw [hrl]; omega)
          rw [hrl] at hown2 hcap ⊢
          obtain ⟨A2, c2, hv2, _, hpts⟩ := hown2.at hrl (by omega)
          simp only [Value.slice.injEq] at hv2
          obtain ⟨rfl, _, rfl⟩ := hv2
          obtain ⟨i1, hi1⟩ : ∃ i1, i1 = m - 1 := ⟨_, rfl⟩
          obtain ⟨i2, hi2⟩ : ∃ i2, i2 = m - 2 := ⟨_, rfl⟩
          obtain ⟨b1, b2⟩ := b'
          obtain ⟨a1, a2⟩ := a'
          have hlb : st.reverse[i1]? = some (b1, b2) := by
            rw [List.getElem?_reverse (by omega), ← hm, hi1, show m - 1 - (m - 1) = 0 by omega, hst]; rfl
          have hla : st.reverse[i2]? = some (a1, a2) := by
            rw [List.getElem?_reverse (by omega), ← hm, hi2, show m - 1 - (m - 2) = 1 by omega, hst]; rfl
          obtain ⟨bb, oo, eb, hcell⟩ := hpts (fun e => by rw [e] at hlb; simp at hlb)
          simp only [Option.some.injEq, Addr.mk.injEq, and_true] at eb
          obtain ⟨rfl, rfl⟩ := eb
          have y0 := (hcell i1 _ hlb).1
          have y1 := (hcell i1 _ hlb).2
          have z0 := (hcell i2 _ hla).1
          have z1 := (hcell i2 _ hla).2
          simp only [Nat.zero_add] at y0 y1 z0 z1
          have w1 : IntKind.i64.wrap ((m : Int) - 1) = (i1 : Int) := (IntWalk.i64_in _ (by omega)).trans (by omega)
          have w2 : IntKind.i64.wrap ((m : Int) - 2) = (i2 : Int) := (IntWalk.i64_in _ (by omega)).trans (by omega)
          have n1 : i1 < m := by omega
          have n2 : i2 < m := by omega
          have n3 : i1 ≤ cap := by omega
          have n4 : (2 : Int) ≤ (m : Int) := by omega
          have hvb : validS (b1, b2) = true := HSV.out _ (by rw [hst]; simp)
          have hva : validS (a1, a2) = true := HSV.out _ (by rw [hst]; simp)
          have htri := orient_tri hva hvb HVP.out
          have hpop : popS (p1, p2) st = if triS (a1, a2) (b1, b2) (p1, p2) ≤ 0 then popS (p1, p2) ((a1, a2) :: t) else st := by rw [hst]; rfl
          have hcut := own_cut hown2 (k := i1) (by omega)
          have hrt : st.reverse.take i1 = ((a1, a2) :: t).reverse := by
            rw [hst, List.reverse_cons, List.take_append_of_le_length (by rw [List.length_reverse]; have := hm; rw [hst] at this; simp at this ⊢; omega), List.take_of_length_le]
            rw [List.length_reverse]; have := hm; rw [hst] at this; simp at this ⊢; omega
          rw [hrt] at hcut
          have hle : orientS (a1, a2) (b1, b2) (p1, p2) ≤ 0 ↔ triS (a1, a2) (b1, b2) (p1, p2) ≤ 0 := by
            rw [htri]
            have := sgn_pos (triS (a1, a2) (b1, b2) (p1, p2))
            omega
          have HLE := Lib.hid hle
          have HPO := Lib.hid hpop
          have HST2 := Lib.hid hst
          have HI1 := Lib.hid hi1
          have HLT := Lib.hid (show ((a1, a2) :: t).length ≤ n from by have := hm; rw [hst] at this; simp at this ⊢; omega)
          clear hlb hla hcell hpts hi1 hi2 hvb hva htri hpop hrt hle hst hm hrl
          go_wp2_with fail
          apply wp_region_par' 20 (by kernel_rfl) (by kernel_rfl) rfl
          simp only [List.take_succ_cons, List.take_zero, List.drop_succ_cons, List.drop_zero]
          generalize hW : World.drew _ = W
          have hEW : Ext wr W := by rw [← hW]; exact Ext.drew _
          clear hW
          have e0 := fun z : Later W => z.cell (hEW.cell y0)
          have e1 := fun z : Later W => z.cell (hEW.cell y1)
          have e2 := fun z : Later W => z.cell (hEW.cell z0)
          have e3 := fun z : Later W => z.cell (hEW.cell z1)
          have gp := ((hB.ext hE2).ext hEW).lcell
          clear y0 y1 z0 z1 fp
          iterate 20
            refine parW_step rfl (fun K hK => ?_)
            apply Exists.intro
            refine ⟨fun z => ?_, ?_⟩
            focus
              go_simp
              first
                | rfl
                | with_reducible exact calls_val (Orient_any _ _ _ _ _ _ _)
            go_simp
            refine hK _ ?_
            clear hK K
          refine parW_end (fun z => ?_)
          have hEz := hEW.later z
          have fp := ((hB.ext hE2).ext hEz).cell
          clear e0 e1 e2 e3 gp
          generalize z.val = Z at *
          clear z hEW
          by_cases hs : orientS (a1, a2) (b1, b2) (p1, p2) ≤ 0
          · have HPP := Lib.hid (show popS (p1, p2) ((a1, a2) :: t) = popS (p1, p2) st0 from by rw [← HPOP.out, HPO.out, if_pos (HLE.out.1 hs)])
            replace hcut := hcut.ext hEz
            have hEf := hE2.trans hEz
            go_wp2
            go_roundw
            case rel => exact ⟨(a1, a2) :: t, HPP, HLT.out, Lib.hid (fun x hx => HSV.out x (by rw [HST2.out]; exact List.mem_cons_of_mem _ hx)), hEf, hcut⟩
            case measure => simp only [slLen]; omega
          · have HPP := Lib.hid (show popS (p1, p2) st0 = st from by rw [← HPOP.out, HPO.out, if_neg (fun h => hs (HLE.out.2 h))])
            replace hown2 := hown2.ext hEz
            have hEf := hE3.trans hEz
            have hszf := hEf.size
            have hlen : st.reverse.length + 1 ≤ 1000000000 := by rw [HRL.out]; omega
            clear hcut hE3 hE2 hB
            go_wp2_with (at_builtin; refine wpList_app rfl _ _ rfl w.heap.size _ _ _ _ rfl rfl (hown2.ext (Ext.alloc _ _)) (Pts.one (Box.new _ _ _)) hlen (by simp; omega) ?_; intro v' w' hown' hg')
            have hE5 := Ext.grow (hEf.trans (Ext.alloc _ _)) (hown2.ext (Ext.alloc _ _)) (Nat.le_refl _) hg'
            go_roundw
            case rel => exact ⟨k + 1, by omega, by go_num, hE5, by rw [HST.out, ← HS0.out, HPP.out, List.reverse_cons]; exact hown', Lib.hid (fun x hx => by
              rw [HST.out, ← HS0.out, HPP.out] at hx
              rcases List.mem_cons.1 hx with rfl | hx
              · exact HVP.out
              · exact HSV.out x hx)⟩
            case measure => simp [intOf]; omega
        · have HPP := Lib.hid (show popS (p1, p2) st0 = st from by rw [← HPOP.out, pop_small (by rw [← hm]; omega)])
          obtain ⟨A2, c2, rfl, _, _⟩ := hown2.at hrl (by omega)
          have n4 : ((2 : Int) ≤ (m : Int)) = False := eq_false (by omega)
          have hlen : st.reverse.length + 1 ≤ 1000000000 := by rw [HRL.out]; omega
          clear hm hrl
          go_wp2_with fail
          apply wp_region_par' 20 (by kernel_rfl) (by kernel_rfl) rfl
          simp only [List.take_succ_cons, List.take_zero, List.drop_succ_cons, List.drop_zero]
          generalize hW : World.drew _ = W
          have hEW : Ext wr W := by rw [← hW]; exact Ext.drew _
          clear hW
          clear fp
          iterate 20
            refine parW_step rfl (fun K hK => ?_)
            apply Exists.intro
            refine ⟨fun z => ?_, ?_⟩
            focus
              go_simp
              first
                | rfl
                | fail
            go_simp
            refine hK _ ?_
            clear hK K
          refine parW_end (fun z => ?_)
          have hEz := hEW.later z
          have fp := ((hB.ext hE2).ext hEz).cell
          generalize z.val = Z at *
          clear z hEW
          replace hown2 := hown2.ext hEz
          have hEf := hE3.trans hEz
          have hszf := hEf.size
          clear hE3 hE2 hB
          go_wp2_with (at_builtin; refine wpList_app rfl _ _ rfl w.heap.size _ _ _ _ rfl rfl (hown2.ext (Ext.alloc _ _)) (Pts.one (Box.new _ _ _)) hlen (by simp; omega) ?_; intro v' w' hown' hg')
          have hE5 := Ext.grow (hEf.trans (Ext.alloc _ _)) (hown2.ext (Ext.alloc _ _)) (Nat.le_refl _) hg'
          go_roundw
          case rel => exact ⟨k + 1, by omega, by go_num, hE5, by rw [HST.out, ← HS0.out, HPP.out, List.reverse_cons]; exact hown', Lib.hid (fun x hx => by
            rw [HST.out, ← HS0.out, HPP.out] at hx
            rcases List.mem_cons.1 hx with rfl | hx
            · exact HVP.out
            · exact HSV.out x hx)⟩
          case measure => simp [intOf]; omega
    · have hfin : l.take k = l := List.take_of_length_le (by rw [← HN.out]; omega)
      rw [hfin] at hown
      clear hfin
      go_wp2
      go_ret
      exact ⟨_, rfl, hE, hown⟩
end Go.Proofs.Ythfeamlioiaebaa
