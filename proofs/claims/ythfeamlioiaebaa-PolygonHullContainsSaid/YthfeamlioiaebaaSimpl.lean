/- Simplify, in the program and in the reference. -/
import Derived.Test.YthfeamlioiaebaaFlat
import Derived.Test.YthfeamlioiaebaaDel
import Derived.Test.YthfeamlioiaebaaOrient
set_option linter.unusedVariables false
set_option linter.unusedSimpArgs false
namespace Go.Proofs.Ythfeamlioiaebaa
open Go.RowKit Go.Par Go.Sort

/-- the length of a slice's value -/
def slLen : Value → Nat
  | .slice _ n _ => n
  | _ => 0
theorem flatN_of_some {l : List P2} {i : Nat} (h : flatI l = some i) : flatN l = i := by unfold flatN; rw [h]
theorem flatN_of_none {l : List P2} (h : flatI l = none) : flatN l = -1 := by unfold flatN; rw [h]
set_option maxRecDepth 100000 in
set_option maxHeartbeats 800000 in
theorem Simplify_any (l : List P2) (A : Option Addr) (c n : Nat) (w : World) (hn : n = l.length) (hlc : n ≤ c) (hc : n ≤ 1000000) (hP : PtsAt w A l) :
    Calls Try.prog 40 #[.slice A n c] w fun e w' => ∃ v, e = .returned v ∧ Ext w w' ∧ Own w' w.heap.size v (simpS l) := by
  have HN := Lib.hid hn
  have HC := Lib.hid (fun W (h : Ext w W) => Clone_any l A c W (by rw [← hn]; exact hlc) (by rw [← hn]; exact hc) (hP.ext h))
  rw [← hn] at HC
  have HS := Lib.hid (show simpS l = if validL [l] then simpR l else [] from rfl)
  clear hn
  go_enter Try.func40, Try.ntmps40
  go_wp2_with fail
  refine (valid_one l A c n _ _ HN.out hlc (by omega) (Box.new _ _ _) (hP.ext (Ext.alloc _ _))).mono ?_
  rintro e w1 ⟨rfl, hE1⟩
  have hE := (Ext.alloc _ _).trans hE1
  clear hE1
  cases hv : validL [l]
  · have E := Lib.hid (show simpS l = [] from by rw [HS.out, hv]; rfl)
    go_wp2
    go_ret
    exact ⟨_, rfl, hE, by rw [E.out]; exact Own.nil w1 _⟩
  · have E := Lib.hid (show simpS l = simpR l from by rw [HS.out, hv]; rfl)
    clear hv HS
    go_wp2_with fail
    refine (HC.out _ hE).mono ?_
    rintro e w2 ⟨v, rfl, hE2, hown⟩
    replace hown := hown.lower hE.size
    replace hE := hE.trans hE2
    have hlen : slLen v = n := by
      obtain ⟨A', c', rfl, _⟩ := hown.len
      exact HN.out.symm
    have HL := Lib.hid hlen
    clear hE2 HC hlen
    go_wp2_with fail
    go_loopw [3, 4] (fun s i wr => ∃ l' : List P2, Hid (simpR l' = simpR l) ∧ l'.length ≤ n ∧ Ext w wr ∧ Own wr w.heap.size s l') (fun s _ _ => slLen s)
    case atStart => exact ⟨l, Lib.hid rfl, by rw [← HN.out]; exact Nat.le_refl _, hE, hown⟩
    case round =>
      clear HL hE hown
      obtain ⟨l', hR, hl', hE, hown⟩ := hrel
      obtain ⟨m, hm⟩ : ∃ m, m = l'.length := ⟨_, rfl⟩
      have HM := Lib.hid hm
      rw [← hm] at hl'
      by_cases h3 : 3 ≤ m
      · obtain ⟨g, cap, rfl, hg, hcap⟩ := hown.head (by omega)
        obtain ⟨A', c', hv', hcc, hpts⟩ := hown.at hm.symm (by omega)
        simp only [Value.slice.injEq] at hv'
        obtain ⟨rfl, _, rfl⟩ := hv'
        rw [← hm] at hown hcap ⊢
        clear hm
        have HP := Lib.hid (fun W (h : Ext wr W) => straight_any l' (some ⟨g, 0, none⟩) cap m W HM.out (by omega) (hpts.ext h))
        clear hpts hcc
        cases hf : flatI l' with
        | none =>
          have hfn := Lib.hid (flatN_of_none hf)
          have hr := Lib.hid (simpR_none hf)
          clear hf
          go_wp2_with fail
          refine (HP.out _ (Ext.refl _)).mono ?_
          rintro e w3 ⟨rfl, hE3⟩
          rw [hfn.out]
          go_wp2
          go_ret
          exact ⟨_, rfl, hE.trans hE3, by rw [E.out, ← hR.out, hr.out]; exact hown.ext hE3⟩
        | some i =>
          have hfn := Lib.hid (flatN_of_some hf)
          have hr := Lib.hid (simpR_some hf)
          have hi : i < m := by rw [HM.out]; exact (flatI_some hf).1
          clear hf
          go_wp2_with fail
          refine (HP.out _ (Ext.refl _)).mono ?_
          rintro e w3 ⟨rfl, hE3⟩
          rw [hfn.out]
          have hD := sDelete_any (hown.ext hE3) i (i + 1) (by omega) (by omega) (by omega)
          rw [← List.eraseIdx_eq_take_drop_succ, show i + 1 - i = 1 by omega] at hD
          have HD := Lib.hid hD
          have w1 : IntKind.i64.wrap ((i : Int) + 1) = ((i + 1 : Nat) : Int) := (IntWalk.i64_in _ (by omega)).trans (by omega)
          clear hD
          go_wp2_with fail
          refine HD.out.mono ?_
          rintro e w4 ⟨rfl, hown4, hbut⟩
          have hE4 := (hE.trans hE3).but hbut hg
          clear HD
          go_wp2
          go_roundw
          case rel => exact ⟨_, Lib.hid (hr.out.symm.trans hR.out), by rw [List.length_eraseIdx_of_lt (by rw [← HM.out]; exact hi), ← HM.out]; omega, hE4, hown4⟩
          case measure => simp only [slLen]; omega
      · obtain ⟨A', c', rfl, hcc, hpts⟩ := hown.at hm.symm (by omega)
        have hr := Lib.hid (simpR_small (l := l') (by omega))
        clear hm hown hpts
        go_wp2
        go_ret
        exact ⟨_, rfl, hE, by rw [E.out, ← hR.out, hr.out]; exact Own.nil wr _⟩
theorem erase_take {l : List P2} {i k : Nat} {p : P2} (h : l[k]? = some p) : (l.take (k + 1)).eraseIdx i = if k = i then (l.take k).eraseIdx i else (l.take k).eraseIdx i ++ [p] := by
  have hk := (List.getElem?_eq_some_iff.1 h).1
  have hl : (l.take k).length = k := by rw [List.length_take]; omega
  rw [take_snoc h]
  by_cases h1 : k = i
  · subst h1
    rw [if_pos rfl, List.eraseIdx_append_of_length_le (by omega), hl, Nat.sub_self, List.eraseIdx_of_length_le (l := l.take k) (by omega)]
    simp
  · rw [if_neg h1]
    by_cases h2 : i < k
    · rw [List.eraseIdx_append_of_lt_length (by omega)]
    · rw [List.eraseIdx_of_length_le (by simp; omega), List.eraseIdx_of_length_le (l := l.take k) (by omega)]
set_option maxRecDepth 100000 in
set_option maxHeartbeats 800000 in
theorem rSimplify_any (l : List P2) (A : Option Addr) (c n : Nat) (w : World) (hn : n = l.length) (hlc : n ≤ c) (hc : n ≤ 1000000) (hP : PtsAt w A l) :
    Calls Try.prog 44 #[.slice A n c] w fun e w' => ∃ v, e = .returned v ∧ Ext w w' ∧ Own w' w.heap.size v (simpS l) := by
  have HN := Lib.hid hn
  have HC := Lib.hid (fun W (h : Ext w W) => copied_any l A c W (by rw [← hn]; exact hc) (hP.ext h))
  rw [← hn] at HC
  have HS := Lib.hid (show simpS l = if validL [l] then simpR l else [] from rfl)
  clear hn
  go_enter Try.func44, Try.ntmps44
  go_wp2_with fail
  refine (rvalid_one l A c n _ _ HN.out hlc (by omega) Box.at1 (hP.ext ((Ext.alloc _ _).trans (Ext.alloc _ _)))).mono ?_
  rintro e w1 ⟨rfl, hE1⟩
  have hE := ((Ext.alloc _ _).trans (Ext.alloc _ _)).trans hE1
  have hown0 := ((Own.made w).ext (Ext.alloc _ _)).ext hE1
  clear hE1
  cases hv : validL [l]
  · have E := Lib.hid (show simpS l = [] from by rw [HS.out, hv]; rfl)
    go_wp2
    go_ret
    exact ⟨_, rfl, hE, by rw [E.out]; exact hown0⟩
  · have E := Lib.hid (show simpS l = simpR l from by rw [HS.out, hv]; rfl)
    clear hv HS hown0
    go_wp2_with fail
    refine (HC.out _ hE).mono ?_
    rintro e w2 ⟨v, rfl, hE2, hown⟩
    replace hown := hown.lower hE.size
    replace hE := hE.trans hE2
    clear hE2 HC
    obtain ⟨A', c', rfl, hcc, hpts⟩ := hown.at HN.out.symm (by omega)
    have HF := Lib.hid (flat_any l A' c' n w2 HN.out hc hpts)
    clear hpts hcc
    go_wp2_with fail
    refine HF.out.mono ?_
    rintro e w3 ⟨rfl, hE3⟩
    replace hown := hown.ext hE3
    replace hE := hE.trans hE3
    have hlen := Lib.hid (show slLen (.slice A' n c') = n from rfl)
    clear hE3 HF
    go_wp2_with fail
    go_loopw [3, 4, 5, 6] (fun s i _ _ wr => ∃ l' : List P2, Hid (simpR l' = simpR l) ∧ l'.length ≤ n ∧ i = .int .i64 (flatN l') ∧ Ext w wr ∧ Own wr w.heap.size s l') (fun s _ _ _ _ => slLen s)
    case atStart => exact ⟨l, Lib.hid rfl, by rw [← HN.out]; exact Nat.le_refl _, rfl, hE, hown⟩
    case round =>
      clear hlen hE hown w2 w1 w3
      obtain ⟨l', hR, hl', rfl, hE, hown⟩ := hrel
      obtain ⟨m, hm⟩ : ∃ m, m = l'.length := ⟨_, rfl⟩
      have HM := Lib.hid hm
      rw [← hm] at hl'
      obtain ⟨A2, c2, rfl, hcc, hpts⟩ := hown.at hm.symm (by omega)
      clear hm hcc
      cases hf : flatI l' with
      | none =>
        have hfn := flatN_of_none hf
        have hr := Lib.hid (simpR_none hf)
        have hsm := Lib.hid (fun h3 : m < 3 => simpR_small (l := l') (by rw [← HM.out]; exact h3))
        rw [hfn]
        clear hf hfn hpts
        by_cases h3 : m < 3
        · have e0 := Lib.hid (show simpS l = [] from by rw [E.out, ← hR.out]; exact hsm.out h3)
          have hsz := hE.size
          clear hsm
          go_wp2
          go_ret
          exact ⟨_, rfl, hE.trans (Ext.alloc _ _), by rw [e0.out]; exact (Own.made wr).base hsz⟩
        · clear hsm
          go_wp2
          go_ret
          exact ⟨_, rfl, hE, by rw [E.out, ← hR.out, hr.out]; exact hown⟩
      | some i =>
        have hfn := flatN_of_some hf
        have hr := Lib.hid (simpR_some hf)
        have hi : i < m := by rw [HM.out]; exact (flatI_some hf).1
        rw [hfn]
        clear hf hfn
        have hsz := hE.size
        go_wp2_with fail
        generalize wr = wo at *
        go_loopw [5, 6] (fun s k wr => ∃ k' : Nat, k' ≤ m ∧ k = .int .i64 k' ∧ Ext wo wr ∧ Own wr wo.heap.size s ((l'.take k').eraseIdx i)) (fun _ k _ => m - (intOf k).toNat)
        case atStart => exact ⟨0, Nat.zero_le _, rfl, Ext.alloc _ _, by rw [List.take_zero, List.eraseIdx_nil]; exact Own.made wo⟩
        case round =>
          obtain ⟨k, hk, rfl, hE2, hown2⟩ := hrel
          by_cases hlt : k < m
          · obtain ⟨⟨x, y⟩, hlk⟩ : ∃ q, l'[k]? = some q := ⟨_, List.getElem?_eq_getElem (by rw [← HM.out]; exact hlt)⟩
            have het := erase_take (i := i) hlk
            by_cases hki : k = i
            · rw [if_pos hki] at het
              have HT := Lib.hid het
              have d0 : ((k : Int) != (i : Int)) = false := by rw [hki]; simp
              have d1 : (k : Int) = (i : Int) := by omega
              clear het hlk hpts hown
              subst hki
              clear d1 d0
              go_wp2
              go_roundw
              case rel => exact ⟨k + 1, by omega, by go_num, hE2, by rw [HT.out]; exact hown2⟩
              case measure => simp [intOf]; omega
            · rw [if_neg hki] at het
              have d1 : ¬ (k : Int) = (i : Int) := by omega
              have d0 : ((k : Int) != (i : Int)) = true := by rw [bne_iff_ne]; exact d1
              obtain ⟨b, o, rfl, hcell⟩ := hpts (fun e => by rw [e] at hlk; simp at hlk)
              have c0 := hE2.cell (hcell k _ hlk).1
              have c1 := hE2.cell (hcell k _ hlk).2
              have hlen : ((l'.take k).eraseIdx i).length + 1 ≤ 1000000000 := by
                have := List.length_eraseIdx_le (l'.take k) i
                rw [List.length_take] at this
                omega
              have HT := Lib.hid het
              have hs2 := hE2.size
              clear hlk hcell het hpts hown
              go_wp2_with (at_builtin; refine wpList_app rfl _ _ rfl wo.heap.size _ _ _ _ rfl rfl (hown2.ext (Ext.alloc _ _)) (Pts.one (Box.new _ _ _)) hlen (by simp; omega) ?_; intro v' w' hown' hg)
              have hE3 := Ext.grow (hE2.trans (Ext.alloc _ _)) (hown2.ext (Ext.alloc _ _)) (Nat.le_refl _) hg
              go_roundw
              case rel => exact ⟨k + 1, by omega, by go_num, hE3, by rw [HT.out]; exact hown'⟩
              case measure => simp [intOf]; omega
          · have hfin : l'.take k = l' := List.take_of_length_le (by rw [← HM.out]; omega)
            rw [hfin] at hown2
            have hle : (l'.eraseIdx i).length = m - 1 := by rw [List.length_eraseIdx_of_lt (by rw [← HM.out]; exact hi), ← HM.out]
            obtain ⟨A3, c3, rfl, _, hpts3⟩ := hown2.at hle (by omega)
            have HF := Lib.hid (flat_any (l'.eraseIdx i) A3 c3 (m - 1) wr hle.symm (by omega) hpts3)
            have HL := Lib.hid hle
            clear hfin hle hpts3 hpts hown
            go_wp2_with fail
            refine HF.out.mono ?_
            rintro e w3 ⟨rfl, hE3⟩
            clear HF
            go_wp2
            go_roundw
            case rel => exact ⟨_, Lib.hid (hr.out.symm.trans hR.out), by rw [HL.out]; omega, rfl, (hE.trans hE2).trans hE3, (hown2.lower hsz).ext hE3⟩
            case measure => simp only [slLen]; omega
end Go.Proofs.Ythfeamlioiaebaa
