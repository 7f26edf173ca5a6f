/- The least vertex that does not turn, in the program and in the reference. -/
import Derived.Test.YthfeamlioiaebaaSimpLaw
set_option linter.unusedVariables false
set_option linter.unusedSimpArgs false
namespace Go.Proofs.Ythfeamlioiaebaa
open Go.RowKit Go.Par

theorem tmod_nat {a n : Nat} {x : Int} (h : x = (a : Int)) : x.tmod (n : Int) = ((a % n : Nat) : Int) := by subst h; rfl
theorem emod_nat {a n : Nat} {x : Int} (h : x = (a : Int)) : x % (n : Int) = ((a % n : Nat) : Int) := by subst h; rfl
theorem flatN_some {l : List P2} {i : Nat} (hi : i < l.length) (h : flatB l i = true) (hno : ∀ j, j < i → flatB l j = false) : flatN l = i := by
  unfold flatN; rw [flatI_is hi h hno]
theorem flatN_none {l : List P2} (hno : ∀ j, j < l.length → flatB l j = false) : flatN l = -1 := by
  unfold flatN; rw [flatI_isNone hno]
theorem flatB_at {l : List P2} {i : Nat} {a b c : P2} (ha : l[(i + l.length - 1) % l.length]? = some a) (hb : l[i]? = some b) (hc : l[(i + 1) % l.length]? = some c) : flatB l i = decide (orientS a b c = 0) := by
  unfold flatB
  rw [atS_at ha, atS_at hb, atS_at hc]
  rfl
set_option maxRecDepth 100000 in
set_option maxHeartbeats 800000 in
theorem straight_any (l : List P2) (A : Option Addr) (c n : Nat) (w : World) (hn : n = l.length) (hc : n ≤ 1000000) (hP : PtsAt w A l) :
    Calls Try.prog 71 #[.slice A n c] w fun e w' => e = .returned (.int .i64 (flatN l)) ∧ Ext w w' := by
  have HN := Lib.hid hn
  clear hn
  go_enter Try.func71, Try.ntmps71
  go_wp2_with fail
  go_loopw [4, 5, 10] (fun _ _ i wr => ∃ k : Nat, k ≤ n ∧ i = .int .i64 k ∧ Ext w wr ∧ ∀ j, j < k → flatB l j = false) (fun _ _ i _ => n - (intOf i).toNat)
  case atStart => exact ⟨0, Nat.zero_le _, rfl, Ext.refl w, fun j hj => absurd hj (Nat.not_lt_zero j)⟩
  case round =>
    obtain ⟨k, hk, rfl, hE, hno⟩ := hrel
    have HNO := Lib.hid hno
    clear hno
    by_cases hlt : k < n
    · obtain ⟨i, hi⟩ : ∃ i, i = (k + n - 1) % n := ⟨_, rfl⟩
      obtain ⟨j, hj⟩ : ∃ j, j = (k + 1) % n := ⟨_, rfl⟩
      have hin : i < n := by rw [hi]; exact Nat.mod_lt _ (by omega)
      have hjn : j < n := by rw [hj]; exact Nat.mod_lt _ (by omega)
      obtain ⟨⟨a1, a2⟩, hla⟩ : ∃ q, l[i]? = some q := ⟨_, List.getElem?_eq_getElem (by rw [← HN.out]; exact hin)⟩
      obtain ⟨⟨b1, b2⟩, hlb⟩ : ∃ q, l[k]? = some q := ⟨_, List.getElem?_eq_getElem (by rw [← HN.out]; exact hlt)⟩
      obtain ⟨⟨c1, c2⟩, hlc⟩ : ∃ q, l[j]? = some q := ⟨_, List.getElem?_eq_getElem (by rw [← HN.out]; exact hjn)⟩
      have hfl := flatB_at (l := l) (i := k) (by rw [← HN.out, ← hi]; exact hla) hlb (by rw [← HN.out, ← hj]; exact hlc)
      have HFL := Lib.hid hfl
      obtain ⟨b, o, rfl, hcell⟩ := hP (fun e => by rw [e] at hla; simp at hla)
      have x0 := hE.cell (hcell i _ hla).1
      have x1 := hE.cell (hcell i _ hla).2
      have y0 := hE.cell (hcell k _ hlb).1
      have y1 := hE.cell (hcell k _ hlb).2
      have z0 := hE.cell (hcell j _ hlc).1
      have z1 := hE.cell (hcell j _ hlc).2
      have m1 := tmod_nat (a := k + n - 1) (n := n) (x := (k : Int) + n - 1) (by omega)
      have m2 := emod_nat (a := k + n - 1) (n := n) (x := (k : Int) + n - 1) (by omega)
      have m3 := tmod_cast k n
      have m4 := emod_cast k n
      rw [← hi] at m1 m2
      rw [← hj] at m3 m4
      have q3 : ¬ n = 0 := by omega
      have w1 : IntKind.i64.wrap ((k : Int) + (n : Int)) = (k : Int) + n := IntWalk.i64_in _ (by omega)
      have w2 : IntKind.i64.wrap ((k : Int) + (n : Int) - 1) = (k : Int) + n - 1 := IntWalk.i64_in _ (by omega)
      have w3 : IntKind.i64.wrap ((k : Int) + 1) = (k : Int) + 1 := IntWalk.i64_in _ (by omega)
      clear hla hlb hlc hfl hcell hi hj
      go_wp2_with fail
      apply wp_region_par' 19 (by kernel_rfl) (by kernel_rfl) rfl
      simp only [List.take_succ_cons, List.take_zero, List.drop_succ_cons, List.drop_zero]
      generalize hW : World.drew _ = W
      have hEW : Ext wr W := by rw [← hW]; exact (Ext.alloc _ _).trans (Ext.drew _)
      have b5 : Box W wr.heap.size 24 #[.int .i64 b1, .int .i64 b2] := by rw [← hW]; exact (Box.new _ _ _).drew
      clear hW
      have e0 := fun z : Later W => z.cell (hEW.cell x0)
      have e1 := fun z : Later W => z.cell (hEW.cell x1)
      have e2 := fun z : Later W => z.cell (hEW.cell z0)
      have e3 := fun z : Later W => z.cell (hEW.cell z1)
      have c5 := b5.lcell
      clear x0 x1 y0 y1 z0 z1
      iterate 19
        refine parW_step rfl (fun K hK => ?_)
        apply Exists.intro
        refine ⟨fun z => ?_, ?_⟩
        focus
          go_simp
          first
            | rfl
            | with_reducible exact calls_val (Orient_any _ _ _ _ _ _ _)
        go_simp
        refine hK _ ?_
        clear hK K
      refine parW_end (fun z => ?_)
      have hE2 := hE.trans (hEW.later z)
      clear e0 e1 e2 e3 c5 m1 m2 m3 m4 w1 w2 w3
      by_cases h0 : orientS (a1, a2) (b1, b2) (c1, c2) = 0
      · have ht : flatN l = k := flatN_some (by rw [← HN.out]; exact hlt) (by rw [HFL.out]; exact decide_eq_true h0) HNO.out
        have HT := Lib.hid ht
        clear ht
        rw [h0]
        clear h0
        go_wp2
        go_ret
        exact ⟨ret_eq (by rw [HT.out]; rfl), hE2⟩
      · have hf : flatB l k = false := by rw [HFL.out]; exact decide_eq_false h0
        have HF := Lib.hid hf
        have d0 : (orientS (a1, a2) (b1, b2) (c1, c2) == 0) = false := by rw [beq_eq_false_iff_ne]; exact h0
        clear hf
        go_wp2
        go_roundw
        case rel => exact ⟨k + 1, by omega, by go_num, hE2, fun j hj => by
          rcases Nat.lt_succ_iff_lt_or_eq.1 hj with h | rfl
          · exact HNO.out j h
          · exact HF.out⟩
        case measure => simp [intOf]; omega
    · have ht : flatN l = -1 := flatN_none fun j hj => HNO.out j (by rw [← HN.out] at hj; omega)
      have HT := Lib.hid ht
      clear ht
      go_wp2
      go_ret
      exact ⟨ret_eq (by rw [HT.out]; rfl), hE⟩
set_option maxRecDepth 100000 in
set_option maxHeartbeats 800000 in
theorem flat_any (l : List P2) (A : Option Addr) (c n : Nat) (w : World) (hn : n = l.length) (hc : n ≤ 1000000) (hP : PtsAt w A l) :
    Calls Try.prog 76 #[.slice A n c] w fun e w' => e = .returned (.int .i64 (flatN l)) ∧ Ext w w' := by
  have HN := Lib.hid hn
  clear hn
  go_enter Try.func76, Try.ntmps76
  go_wp2_with fail
  go_loopw [4] (fun i wr => ∃ k : Nat, k ≤ n ∧ i = .int .i64 k ∧ Ext w wr ∧ ∀ j, j < k → flatB l j = false) (fun i _ => n - (intOf i).toNat)
  case atStart => exact ⟨0, Nat.zero_le _, rfl, Ext.refl w, fun j hj => absurd hj (Nat.not_lt_zero j)⟩
  case round =>
    obtain ⟨k, hk, rfl, hE, hno⟩ := hrel
    have HNO := Lib.hid hno
    clear hno
    by_cases hlt : k < n
    · obtain ⟨i, hi⟩ : ∃ i, i = (k + n - 1) % n := ⟨_, rfl⟩
      obtain ⟨j, hj⟩ : ∃ j, j = (k + 1) % n := ⟨_, rfl⟩
      have hin : i < n := by rw [hi]; exact Nat.mod_lt _ (by omega)
      have hjn : j < n := by rw [hj]; exact Nat.mod_lt _ (by omega)
      obtain ⟨⟨a1, a2⟩, hla⟩ : ∃ q, l[i]? = some q := ⟨_, List.getElem?_eq_getElem (by rw [← HN.out]; exact hin)⟩
      obtain ⟨⟨b1, b2⟩, hlb⟩ : ∃ q, l[k]? = some q := ⟨_, List.getElem?_eq_getElem (by rw [← HN.out]; exact hlt)⟩
      obtain ⟨⟨c1, c2⟩, hlc⟩ : ∃ q, l[j]? = some q := ⟨_, List.getElem?_eq_getElem (by rw [← HN.out]; exact hjn)⟩
      have hfl := flatB_at (l := l) (i := k) (by rw [← HN.out, ← hi]; exact hla) hlb (by rw [← HN.out, ← hj]; exact hlc)
      have HFL := Lib.hid hfl
      obtain ⟨b, o, rfl, hcell⟩ := hP (fun e => by rw [e] at hla; simp at hla)
      have x0 := hE.cell (hcell i _ hla).1
      have x1 := hE.cell (hcell i _ hla).2
      have y0 := hE.cell (hcell k _ hlb).1
      have y1 := hE.cell (hcell k _ hlb).2
      have z0 := hE.cell (hcell j _ hlc).1
      have z1 := hE.cell (hcell j _ hlc).2
      have m1 := tmod_nat (a := k + n - 1) (n := n) (x := (k : Int) + n - 1) (by omega)
      have m2 := emod_nat (a := k + n - 1) (n := n) (x := (k : Int) + n - 1) (by omega)
      have m3 := tmod_cast k n
      have m4 := emod_cast k n
      rw [← hi] at m1 m2
      rw [← hj] at m3 m4
      have q3 : ¬ n = 0 := by omega
      have w1 : IntKind.i64.wrap ((k : Int) + (n : Int)) = (k : Int) + n := IntWalk.i64_in _ (by omega)
      have w2 : IntKind.i64.wrap ((k : Int) + (n : Int) - 1) = (k : Int) + n - 1 := IntWalk.i64_in _ (by omega)
      have w3 : IntKind.i64.wrap ((k : Int) + 1) = (k : Int) + 1 := IntWalk.i64_in _ (by omega)
      clear hla hlb hlc hfl hcell hi hj
      go_wp2_with fail
      apply wp_region_par' 22 (by kernel_rfl) (by kernel_rfl) rfl
      simp only [List.take_succ_cons, List.take_zero, List.drop_succ_cons, List.drop_zero]
      generalize hW : World.drew _ = W
      have hEW : Ext wr W := by rw [← hW]; exact Ext.drew _
      clear hW
      have e0 := fun z : Later W => z.cell (hEW.cell x0)
      have e1 := fun z : Later W => z.cell (hEW.cell x1)
      have e2 := fun z : Later W => z.cell (hEW.cell z0)
      have e3 := fun z : Later W => z.cell (hEW.cell z1)
      have e4 := fun z : Later W => z.cell (hEW.cell y0)
      have e5 := fun z : Later W => z.cell (hEW.cell y1)
      clear x0 x1 y0 y1 z0 z1
      iterate 22
        refine parW_step rfl (fun K hK => ?_)
        apply Exists.intro
        refine ⟨fun z => ?_, ?_⟩
        focus
          go_simp
          first
            | rfl
            | with_reducible exact calls_val (rOrient_any _ _ _ _ _ _ _)
        go_simp
        refine hK _ ?_
        clear hK K
      refine parW_end (fun z => ?_)
      have hE2 := hE.trans (hEW.later z)
      clear e0 e1 e2 e3 e4 e5 m1 m2 m3 m4 w1 w2 w3
      by_cases h0 : orientS (a1, a2) (b1, b2) (c1, c2) = 0
      · have ht : flatN l = k := flatN_some (by rw [← HN.out]; exact hlt) (by rw [HFL.out]; exact decide_eq_true h0) HNO.out
        have HT := Lib.hid ht
        clear ht
        rw [h0]
        clear h0
        go_wp2
        go_ret
        exact ⟨ret_eq (by rw [HT.out]; rfl), hE2⟩
      · have hf : flatB l k = false := by rw [HFL.out]; exact decide_eq_false h0
        have HF := Lib.hid hf
        have d0 : (orientS (a1, a2) (b1, b2) (c1, c2) == 0) = false := by rw [beq_eq_false_iff_ne]; exact h0
        clear hf
        go_wp2
        go_roundw
        case rel => exact ⟨k + 1, by omega, by go_num, hE2, fun j hj => by
          rcases Nat.lt_succ_iff_lt_or_eq.1 hj with h | rfl
          · exact HNO.out j h
          · exact HF.out⟩
        case measure => simp [intOf]; omega
    · have ht : flatN l = -1 := flatN_none fun j hj => HNO.out j (by rw [← HN.out] at hj; omega)
      have HT := Lib.hid ht
      clear ht
      go_wp2
      go_ret
      exact ⟨ret_eq (by rw [HT.out]; rfl), hE⟩
end Go.Proofs.Ythfeamlioiaebaa
