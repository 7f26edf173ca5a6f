/- Strict convexity, in the program and in the reference. -/
import Derived.Test.YthfeamlioiaebaaFlat
import Derived.Test.YthfeamlioiaebaaArea
set_option linter.unusedVariables false
set_option linter.unusedSimpArgs false
namespace Go.Proofs.Ythfeamlioiaebaa
open Go.RowKit Go.Par

def okS (l : List P2) (i : Nat) (s : Int) (k : Nat) : Bool := decide (k = i) || decide (k = (i + 1) % l.length) || decide (orientS (atS l i) (atS l ((i + 1) % l.length)) (atS l k) = s)
def sidesS (l : List P2) (i : Nat) (s : Int) : Bool := (List.range l.length).all (okS l i s)
def convS (l : List P2) : Bool := decide (3 ≤ l.length) && validL [l] && decide (orientS (atS l 0) (atS l 1) (atS l 2) ≠ 0) && (List.range l.length).all fun i => sidesS l i (orientS (atS l 0) (atS l 1) (atS l 2))
theorem range_all {n : Nat} {f : Nat → Bool} (h : ∀ k, k < n → f k = true) : (List.range n).all f = true := by
  rw [List.all_eq_true]; exact fun k hk => h k (List.mem_range.1 hk)
theorem range_not {n k : Nat} {f : Nat → Bool} (hk : k < n) (h : f k = false) : (List.range n).all f = false := by
  rw [Bool.eq_false_iff]
  intro e
  rw [List.all_eq_true] at e
  have := e k (List.mem_range.2 hk)
  rw [h] at this
  cases this
set_option maxRecDepth 100000 in
set_option maxHeartbeats 800000 in
theorem sides_any (l : List P2) (A : Option Addr) (c n i : Nat) (s : Int) (w : World) (hn : n = l.length) (hc : n ≤ 1000000) (hi : i < n) (hP : PtsAt w A l) :
    Calls Try.prog 77 #[.slice A n c, .int .i64 i, .int .i64 s] w fun e w' => e = .returned (.bool (sidesS l i s)) ∧ Ext w w' := by
  have HN := Lib.hid hn
  obtain ⟨j, hj⟩ : ∃ j, j = (i + 1) % n := ⟨_, rfl⟩
  have hjn : j < n := by rw [hj]; exact Nat.mod_lt _ (by omega)
  obtain ⟨⟨a1, a2⟩, hla⟩ : ∃ q, l[i]? = some q := ⟨_, List.getElem?_eq_getElem (by rw [← hn]; exact hi)⟩
  obtain ⟨⟨b1, b2⟩, hlb⟩ : ∃ q, l[j]? = some q := ⟨_, List.getElem?_eq_getElem (by rw [← hn]; exact hjn)⟩
  have hok : ∀ k c1 c2, l[k]? = some (c1, c2) → okS l i s k = (decide (k = i) || decide (k = j) || decide (orientS (a1, a2) (b1, b2) (c1, c2) = s)) := fun k c1 c2 h => by
    unfold okS
    rw [← hn, ← hj, atS_at hla, atS_at hlb, atS_at h]
  have HOK := Lib.hid hok
  obtain ⟨b, o, rfl, hcell⟩ := hP (fun e => by rw [e] at hla; simp at hla)
  have x0 := (hcell i _ hla).1
  have x1 := (hcell i _ hla).2
  have y0 := (hcell j _ hlb).1
  have y1 := (hcell j _ hlb).2
  have HC := Lib.hid hcell
  have m1 := tmod_nat (a := i + 1) (n := n) (x := (i : Int) + 1) (by omega)
  have m2 := emod_nat (a := i + 1) (n := n) (x := (i : Int) + 1) (by omega)
  rw [← hj] at m1 m2
  have q3 : ¬ n = 0 := by omega
  have w1 : IntKind.i64.wrap ((i : Int) + 1) = (i : Int) + 1 := IntWalk.i64_in _ (by omega)
  clear hla hlb hok hj hn hcell hP
  go_enter Try.func77, Try.ntmps77
  go_wp2_with fail
  clear m1 m2 w1 q3
  go_loopw [9, 10, 19] (fun _ _ i' wr => ∃ k : Nat, k ≤ n ∧ i' = .int .i64 k ∧ Ext w wr ∧ ∀ t, t < k → okS l i s t = true) (fun _ _ i' _ => n - (intOf i').toNat)
  case atStart => exact ⟨0, Nat.zero_le _, rfl, Ext.refl w, fun j hj => absurd hj (Nat.not_lt_zero j)⟩
  case round =>
    obtain ⟨k, hk, rfl, hE, hno⟩ := hrel
    have HNO := Lib.hid hno
    clear hno
    by_cases hlt : k < n
    · obtain ⟨⟨c1, c2⟩, hlc⟩ : ∃ q, l[k]? = some q := ⟨_, List.getElem?_eq_getElem (by rw [← HN.out]; exact hlt)⟩
      have HO := Lib.hid (HOK.out k c1 c2 hlc)
      have z0 := hE.cell (HC.out k _ hlc).1
      have z1 := hE.cell (HC.out k _ hlc).2
      have x0' := hE.cell x0
      have x1' := hE.cell x1
      have y0' := hE.cell y0
      have y1' := hE.cell y1
      clear hlc
      go_wp2_with fail
      apply wp_region_par' 22 (by kernel_rfl) (by kernel_rfl) rfl
      simp only [List.take_succ_cons, List.take_zero, List.drop_succ_cons, List.drop_zero]
      generalize hW : World.drew _ = W
      have hEW : Ext wr W := by rw [← hW]; exact (Ext.alloc _ _).trans (Ext.drew _)
      have b5 : Box W wr.heap.size 24 #[.int .i64 c1, .int .i64 c2] := by rw [← hW]; exact (Box.new _ _ _).drew
      clear hW
      have e0 := fun z : Later W => z.cell (hEW.cell x0')
      have e1 := fun z : Later W => z.cell (hEW.cell x1')
      have e2 := fun z : Later W => z.cell (hEW.cell y0')
      have e3 := fun z : Later W => z.cell (hEW.cell y1')
      have c5 := b5.lcell
      clear x0' x1' y0' y1' z0 z1
      by_cases hki : k = i
      · have hok : okS l i s k = true := by rw [HO.out]; simp [hki]
        have HK := Lib.hid hok
        subst hki
        clear hok
        iterate 22
          refine parW_step rfl (fun K hK => ?_)
          apply Exists.intro
          refine ⟨fun z => ?_, ?_⟩
          focus
            go_simp
            first
              | rfl
              | fail
          go_simp
          refine hK _ ?_
          clear hK K
        refine parW_end (fun z => ?_)
        have hE2 := hE.trans (hEW.later z)
        clear e0 e1 e2 e3 c5
        go_wp2
        go_roundw
        case rel => exact ⟨k + 1, by omega, by go_num, hE2, fun t ht => by
          rcases Nat.lt_succ_iff_lt_or_eq.1 ht with h | rfl
          · exact HNO.out t h
          · exact HK.out⟩
        case measure => simp [intOf]; omega
      · have d1 : ¬ (k : Int) = (i : Int) := by omega
        have d2 : ((k : Int) != (i : Int)) = true := by rw [bne_iff_ne]; exact d1
        by_cases hkj : k = j
        · have hok : okS l i s k = true := by rw [HO.out]; simp [hkj]
          have HK := Lib.hid hok
          subst hkj
          clear hok
          iterate 22
            refine parW_step rfl (fun K hK => ?_)
            apply Exists.intro
            refine ⟨fun z => ?_, ?_⟩
            focus
              go_simp
              first
                | rfl
                | fail
            go_simp
            refine hK _ ?_
            clear hK K
          refine parW_end (fun z => ?_)
          have hE2 := hE.trans (hEW.later z)
          clear e0 e1 e2 e3 c5
          go_wp2
          go_roundw
          case rel => exact ⟨k + 1, by omega, by go_num, hE2, fun t ht => by
            rcases Nat.lt_succ_iff_lt_or_eq.1 ht with h | rfl
            · exact HNO.out t h
            · exact HK.out⟩
          case measure => simp [intOf]; omega
        · have d3 : ¬ (k : Int) = (j : Int) := by omega
          have d4 : ((k : Int) != (j : Int)) = true := by rw [bne_iff_ne]; exact d3
          iterate 22
            refine parW_step rfl (fun K hK => ?_)
            apply Exists.intro
            refine ⟨fun z => ?_, ?_⟩
            focus
              go_simp
              first
                | rfl
                | with_reducible exact calls_val (Orient_any _ _ _ _ _ _ _)
            go_simp
            refine hK _ ?_
            clear hK K
          refine parW_end (fun z => ?_)
          have hE2 := hE.trans (hEW.later z)
          clear e0 e1 e2 e3 c5
          by_cases hs : orientS (a1, a2) (b1, b2) (c1, c2) = s
          · have hok : okS l i s k = true := by rw [HO.out]; simp [hs]
            have HK := Lib.hid hok
            rw [hs]
            clear hok hs
            go_wp2
            go_roundw
            case rel => exact ⟨k + 1, by omega, by go_num, hE2, fun t ht => by
              rcases Nat.lt_succ_iff_lt_or_eq.1 ht with h | rfl
              · exact HNO.out t h
              · exact HK.out⟩
            case measure => simp [intOf]; omega
          · have hok : okS l i s k = false := by rw [HO.out]; simp [hki, hkj, hs]
            have hr : sidesS l i s = false := range_not (by rw [← HN.out]; exact hlt) hok
            have HR := Lib.hid hr
            have d5 : (orientS (a1, a2) (b1, b2) (c1, c2) != s) = true := by rw [bne_iff_ne]; exact hs
            clear hok hr
            go_wp2
            go_ret
            exact ⟨ret_eq (by rw [HR.out]; rfl), hE2⟩
    · have hr : sidesS l i s = true := range_all fun t ht => HNO.out t (by rw [← HN.out] at ht; omega)
      have HR := Lib.hid hr
      clear hr
      go_wp2
      go_ret
      exact ⟨ret_eq (by rw [HR.out]; rfl), hE⟩
set_option maxRecDepth 100000 in
set_option maxHeartbeats 800000 in
theorem bends_any (l : List P2) (A : Option Addr) (c n i : Nat) (s : Int) (w : World) (hn : n = l.length) (hc : n ≤ 1000000) (hi : i < n) (hP : PtsAt w A l) :
    Calls Try.prog 78 #[.slice A n c, .int .i64 i, .int .i64 s] w fun e w' => e = .returned (.bool (sidesS l i s)) ∧ Ext w w' := by
  have HN := Lib.hid hn
  obtain ⟨j, hj⟩ : ∃ j, j = (i + 1) % n := ⟨_, rfl⟩
  have hjn : j < n := by rw [hj]; exact Nat.mod_lt _ (by omega)
  obtain ⟨⟨a1, a2⟩, hla⟩ : ∃ q, l[i]? = some q := ⟨_, List.getElem?_eq_getElem (by rw [← hn]; exact hi)⟩
  obtain ⟨⟨b1, b2⟩, hlb⟩ : ∃ q, l[j]? = some q := ⟨_, List.getElem?_eq_getElem (by rw [← hn]; exact hjn)⟩
  have hok : ∀ k c1 c2, l[k]? = some (c1, c2) → okS l i s k = (decide (k = i) || decide (k = j) || decide (orientS (a1, a2) (b1, b2) (c1, c2) = s)) := fun k c1 c2 h => by
    unfold okS
    rw [← hn, ← hj, atS_at hla, atS_at hlb, atS_at h]
  have HOK := Lib.hid hok
  obtain ⟨b, o, rfl, hcell⟩ := hP (fun e => by rw [e] at hla; simp at hla)
  have x0 := (hcell i _ hla).1
  have x1 := (hcell i _ hla).2
  have y0 := (hcell j _ hlb).1
  have y1 := (hcell j _ hlb).2
  have HC := Lib.hid hcell
  have m1 := tmod_nat (a := i + 1) (n := n) (x := (i : Int) + 1) (by omega)
  have m2 := emod_nat (a := i + 1) (n := n) (x := (i : Int) + 1) (by omega)
  rw [← hj] at m1 m2
  have q3 : ¬ n = 0 := by omega
  have w1 : IntKind.i64.wrap ((i : Int) + 1) = (i : Int) + 1 := IntWalk.i64_in _ (by omega)
  clear hla hlb hok hj hn hcell hP
  go_enter Try.func78, Try.ntmps78
  go_wp2_with fail
  clear m1 m2 w1 q3
  go_loopw [8] (fun i' wr => ∃ k : Nat, k ≤ n ∧ i' = .int .i64 k ∧ Ext w wr ∧ ∀ t, t < k → okS l i s t = true) (fun i' _ => n - (intOf i').toNat)
  case atStart => exact ⟨0, Nat.zero_le _, rfl, Ext.refl w, fun j hj => absurd hj (Nat.not_lt_zero j)⟩
  case round =>
    obtain ⟨k, hk, rfl, hE, hno⟩ := hrel
    have HNO := Lib.hid hno
    clear hno
    by_cases hlt : k < n
    · obtain ⟨⟨c1, c2⟩, hlc⟩ : ∃ q, l[k]? = some q := ⟨_, List.getElem?_eq_getElem (by rw [← HN.out]; exact hlt)⟩
      have HO := Lib.hid (HOK.out k c1 c2 hlc)
      have z0 := hE.cell (HC.out k _ hlc).1
      have z1 := hE.cell (HC.out k _ hlc).2
      have x0' := hE.cell x0
      have x1' := hE.cell x1
      have y0' := hE.cell y0
      have y1' := hE.cell y1
      clear hlc
      go_wp2_with fail
      apply wp_region_par' 25 (by kernel_rfl) (by kernel_rfl) rfl
      simp only [List.take_succ_cons, List.take_zero, List.drop_succ_cons, List.drop_zero]
      generalize hW : World.drew _ = W
      have hEW : Ext wr W := by rw [← hW]; exact Ext.drew _
      clear hW
      have e0 := fun z : Later W => z.cell (hEW.cell x0')
      have e1 := fun z : Later W => z.cell (hEW.cell x1')
      have e2 := fun z : Later W => z.cell (hEW.cell y0')
      have e3 := fun z : Later W => z.cell (hEW.cell y1')
      have e4 := fun z : Later W => z.cell (hEW.cell z0)
      have e5 := fun z : Later W => z.cell (hEW.cell z1)
      clear x0' x1' y0' y1' z0 z1
      by_cases hki : k = i
      · have hok : okS l i s k = true := by rw [HO.out]; simp [hki]
        have HK := Lib.hid hok
        subst hki
        clear hok
        iterate 25
          refine parW_step rfl (fun K hK => ?_)
          apply Exists.intro
          refine ⟨fun z => ?_, ?_⟩
          focus
            go_simp
            first
              | rfl
              | fail
          go_simp
          refine hK _ ?_
          clear hK K
        refine parW_end (fun z => ?_)
        have hE2 := hE.trans (hEW.later z)
        clear e0 e1 e2 e3 e4 e5
        go_wp2
        go_roundw
        case rel => exact ⟨k + 1, by omega, by go_num, hE2, fun t ht => by
          rcases Nat.lt_succ_iff_lt_or_eq.1 ht with h | rfl
          · exact HNO.out t h
          · exact HK.out⟩
        case measure => simp [intOf]; omega
      · have d1 : ¬ (k : Int) = (i : Int) := by omega
        have d2 : ((k : Int) != (i : Int)) = true := by rw [bne_iff_ne]; exact d1
        by_cases hkj : k = j
        · have hok : okS l i s k = true := by rw [HO.out]; simp [hkj]
          have HK := Lib.hid hok
          subst hkj
          clear hok
          iterate 25
            refine parW_step rfl (fun K hK => ?_)
            apply Exists.intro
            refine ⟨fun z => ?_, ?_⟩
            focus
              go_simp
              first
                | rfl
                | fail
            go_simp
            refine hK _ ?_
            clear hK K
          refine parW_end (fun z => ?_)
          have hE2 := hE.trans (hEW.later z)
          clear e0 e1 e2 e3 e4 e5
          go_wp2
          go_roundw
          case rel => exact ⟨k + 1, by omega, by go_num, hE2, fun t ht => by
            rcases Nat.lt_succ_iff_lt_or_eq.1 ht with h | rfl
            · exact HNO.out t h
            · exact HK.out⟩
          case measure => simp [intOf]; omega
        · have d3 : ¬ (k : Int) = (j : Int) := by omega
          have d4 : ((k : Int) != (j : Int)) = true := by rw [bne_iff_ne]; exact d3
          iterate 25
            refine parW_step rfl (fun K hK => ?_)
            apply Exists.intro
            refine ⟨fun z => ?_, ?_⟩
            focus
              go_simp
              first
                | rfl
                | with_reducible exact calls_val (rOrient_any _ _ _ _ _ _ _)
            go_simp
            refine hK _ ?_
            clear hK K
          refine parW_end (fun z => ?_)
          have hE2 := hE.trans (hEW.later z)
          clear e0 e1 e2 e3 e4 e5
          by_cases hs : orientS (a1, a2) (b1, b2) (c1, c2) = s
          · have hok : okS l i s k = true := by rw [HO.out]; simp [hs]
            have HK := Lib.hid hok
            rw [hs]
            clear hok hs
            go_wp2
            go_roundw
            case rel => exact ⟨k + 1, by omega, by go_num, hE2, fun t ht => by
              rcases Nat.lt_succ_iff_lt_or_eq.1 ht with h | rfl
              · exact HNO.out t h
              · exact HK.out⟩
            case measure => simp [intOf]; omega
          · have hok : okS l i s k = false := by rw [HO.out]; simp [hki, hkj, hs]
            have hr : sidesS l i s = false := range_not (by rw [← HN.out]; exact hlt) hok
            have HR := Lib.hid hr
            have d5 : (orientS (a1, a2) (b1, b2) (c1, c2) != s) = true := by rw [bne_iff_ne]; exact hs
            clear hok hr
            go_wp2
            go_ret
            exact ⟨ret_eq (by rw [HR.out]; rfl), hE2⟩
    · have hr : sidesS l i s = true := range_all fun t ht => HNO.out t (by rw [← HN.out] at ht; omega)
      have HR := Lib.hid hr
      clear hr
      go_wp2
      go_ret
      exact ⟨ret_eq (by rw [HR.out]; rfl), hE⟩
end Go.Proofs.Ythfeamlioiaebaa
