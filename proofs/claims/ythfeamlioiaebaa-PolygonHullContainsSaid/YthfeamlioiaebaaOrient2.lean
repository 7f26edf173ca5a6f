/- Reverse and Orient in the reference; rings compared. -/
import Derived.Test.YthfeamlioiaebaaOrient
set_option linter.unusedVariables false
set_option linter.unusedSimpArgs false
namespace Go.Proofs.Ythfeamlioiaebaa
open Go.RowKit Go.Par Go.Sort

set_option maxRecDepth 100000 in
set_option maxHeartbeats 800000 in
theorem rReverse_any (l : List P2) (A : Option Addr) (c n : Nat) (w : World) (hn : n = l.length) (hc : n ≤ 1000000) (hP : PtsAt w A l) :
    Calls Try.prog 43 #[.slice A n c] w fun e w' => ∃ v, e = .returned v ∧ Ext w w' ∧ Own w' w.heap.size v (revS l) := by
  have HN := Lib.hid hn
  have hat := fun k (hk : k < n) => revS_at (l := l) (k := k) (by omega)
  rw [← hn] at hat
  have hrl := revS_length l
  rw [← hn] at hrl
  have HA := Lib.hid hat
  have HR := Lib.hid hrl
  clear hn hat hrl
  go_enter Try.func43, Try.ntmps43
  go_wp2_with fail
  go_loopw [3, 4] (fun s i wr => ∃ k : Nat, k ≤ n ∧ i = .int .i64 k ∧ Ext w wr ∧ Own wr w.heap.size s ((revS l).take k)) (fun _ i _ => n - (intOf i).toNat)
  case atStart => exact ⟨0, Nat.zero_le _, rfl, Ext.alloc _ _, Own.made w⟩
  case round =>
    obtain ⟨k, hk, rfl, hE, hown⟩ := hrel
    by_cases hlt : k < n
    · obtain ⟨j, hj⟩ : ∃ j, j = (n - k) % n := ⟨_, rfl⟩
      have hjn : j < n := by rw [hj]; exact Nat.mod_lt _ (by omega)
      obtain ⟨⟨x, y⟩, hlk⟩ : ∃ q, l[j]? = some q := ⟨_, List.getElem?_eq_getElem (by rw [← HN.out]; exact hjn)⟩
      have hsn := take_snoc (l := revS l) (k := k) (p := (x, y)) (by rw [HA.out k hlt, ← hj]; exact hlk)
      have q1 : ((n : Int) - (k : Int)).tmod (n : Int) = (j : Int) := by
        have : ((n : Int) - (k : Int)) = ((n - k : Nat) : Int) := by omega
        rw [this, hj]
        rfl
      have q2 : ((n : Int) - (k : Int)) % (n : Int) = (j : Int) := by
        have : ((n : Int) - (k : Int)) = ((n - k : Nat) : Int) := by omega
        rw [this, hj]
        rfl
      have q3 : ¬ n = 0 := by omega
      obtain ⟨b, o, rfl, hcell⟩ := hP (fun e => by rw [e] at hlk; simp at hlk)
      have c0 := hE.cell (hcell j _ hlk).1
      have c1 := hE.cell (hcell j _ hlk).2
      have hlen : ((revS l).take k).length + 1 ≤ 1000000000 := by rw [List.length_take]; omega
      have HS := Lib.hid hsn
      have hsz := hE.size
      clear hlk hcell hsn hj
      go_wp2_with (at_builtin; refine wpList_app rfl _ _ rfl w.heap.size _ _ _ _ rfl rfl (hown.ext (Ext.alloc _ _)) (Pts.one (Box.new _ _ _)) hlen (by simp; omega) ?_; intro v' w' hown' hg)
      have hE2 := Ext.grow (hE.trans (Ext.alloc _ _)) (hown.ext (Ext.alloc _ _)) (Nat.le_refl _) hg
      go_roundw
      case rel => exact ⟨k + 1, by omega, by go_num, hE2, by rw [HS.out]; exact hown'⟩
      case measure => simp [intOf]; omega
    · have hfin : (revS l).take k = revS l := List.take_of_length_le (by rw [HR.out]; omega)
      rw [hfin] at hown
      clear hfin
      go_wp2
      go_ret
      exact ⟨_, rfl, hE, hown⟩
/-- two rows compared -/
def eqS (a b : List P2) : Bool := decide (a = b)
theorem eqS_self (a : List P2) : eqS a a = true := decide_eq_true rfl
set_option maxRecDepth 100000 in
set_option maxHeartbeats 800000 in
theorem Ring_any (a b : List P2) (A B : Option Addr) (c d n m : Nat) (w : World) (hn : n = a.length) (hm : m = b.length) (hc : n ≤ 1000000) (hd : m ≤ 1000000) (hA : PtsAt w A a) (hB : PtsAt w B b) :
    Calls Try.prog 33 #[.slice A n c, .slice B m d] w fun e w' => e = .returned (.bool (eqS a b)) ∧ Ext w w' := by
  have HN := Lib.hid hn
  have HM := Lib.hid hm
  clear hn hm
  by_cases hnm : n = m
  · subst hnm
    go_enter Try.func33, Try.ntmps33
    go_wp2_with fail
    go_loopw [5] (fun i wr => ∃ k : Nat, k ≤ n ∧ i = .int .i64 k ∧ Ext w wr ∧ a.take k = b.take k) (fun i _ => n - (intOf i).toNat)
    case atStart => exact ⟨0, Nat.zero_le _, rfl, Ext.refl w, rfl⟩
    case round =>
      obtain ⟨k, hk, rfl, hE, heq⟩ := hrel
      by_cases hlt : k < n
      · obtain ⟨⟨x, y⟩, hlk⟩ : ∃ q, a[k]? = some q := ⟨_, List.getElem?_eq_getElem (by rw [← HN.out]; exact hlt)⟩
        obtain ⟨⟨u, v⟩, hlk'⟩ : ∃ q, b[k]? = some q := ⟨_, List.getElem?_eq_getElem (by rw [← HM.out]; exact hlt)⟩
        have ha := take_snoc hlk
        have hb := take_snoc hlk'
        have hno : (x, y) ≠ (u, v) → eqS a b = false := fun h => decide_eq_false fun e => h (by rw [e] at hlk; rw [hlk'] at hlk; injection hlk with hlk; exact hlk.symm)
        obtain ⟨p, o, rfl, hcell⟩ := hA (fun e => by rw [e] at hlk; simp at hlk)
        obtain ⟨p', o', rfl, hcell'⟩ := hB (fun e => by rw [e] at hlk'; simp at hlk')
        have c0 := hE.cell (hcell k _ hlk).1
        have c1 := hE.cell (hcell k _ hlk).2
        have d0 := hE.cell (hcell' k _ hlk').1
        have d1 := hE.cell (hcell' k _ hlk').2
        have H1 := Lib.hid ha; have H2 := Lib.hid hb; have H3 := Lib.hid hno; have H4 := Lib.hid heq
        clear ha hb hno heq hlk hlk' hcell hcell'
        go_wp2_with fail
        apply wp_region_par' 9 (by kernel_rfl) (by kernel_rfl) rfl
        simp only [List.take_succ_cons, List.take_zero, List.drop_succ_cons, List.drop_zero]
        generalize hW : World.drew _ = W
        have hEW : Ext wr W := by rw [← hW]; exact Ext.drew _
        clear hW
        have e0 := fun z : Later W => z.cell (hEW.cell c0)
        have e1 := fun z : Later W => z.cell (hEW.cell c1)
        have e2 := fun z : Later W => z.cell (hEW.cell d0)
        have e3 := fun z : Later W => z.cell (hEW.cell d1)
        clear c0 c1 d0 d1
        iterate 9
          refine parW_step rfl (fun K hK => ?_)
          apply Exists.intro
          refine ⟨fun z => ?_, ?_⟩
          focus
            go_simp
            first
              | rfl
              | rfl
          go_simp
          refine hK _ ?_
          clear hK K
        refine parW_end (fun z => ?_)
        have hE2 := hE.trans (hEW.later z)
        by_cases hxy : x = u ∧ y = v
        · obtain ⟨rfl, rfl⟩ := hxy
          go_wp2
          go_roundw
          case rel => exact ⟨k + 1, by omega, by go_num, hE2, by rw [H1.out, H2.out, H4.out]⟩
          case measure => simp [intOf]; omega
        · have hf := H3.out (fun e => hxy (by injection e with e1 e2; exact ⟨e1, e2⟩))
          have HFF := Lib.hid hf
          have dne : (!decide (x = u) || !decide (y = v)) = true := by
            by_cases h1 : x = u
            · rw [decide_eq_false (p := y = v) (fun h2 => hxy ⟨h1, h2⟩)]; simp
            · rw [decide_eq_false (p := x = u) h1]; rfl
          clear hf
          go_wp2
          all_goals
            first
            | go_ret
              exact ⟨ret_eq (by rw [HFF.out]; rfl), hE2⟩
            | exfalso
              simp_all
      · have hfin : eqS a b = true := decide_eq_true (by
          have e1 : a.take k = a := List.take_of_length_le (by rw [← HN.out]; omega)
          have e2 : b.take k = b := List.take_of_length_le (by rw [← HM.out]; omega)
          rw [← e1, ← e2]; exact heq)
        have HFF := Lib.hid hfin
        clear hfin heq
        go_wp2
        go_ret
        exact ⟨ret_eq (by rw [HFF.out]; rfl), hE⟩
  · have hf : eqS a b = false := decide_eq_false fun e => hnm (by rw [HN.out, HM.out, e])
    have HFF := Lib.hid hf
    have d0 : ((n : Int) == (m : Int)) = false := by rw [beq_eq_false_iff_ne]; omega
    have d1 : ¬ (n : Int) = (m : Int) := by omega
    have d2 : ((n : Int) != (m : Int)) = true := by rw [bne_iff_ne]; exact d1
    clear hf
    go_enter Try.func33, Try.ntmps33
    go_wp2
    all_goals
      go_ret
      exact ⟨ret_eq (by rw [HFF.out]; rfl), Ext.refl w⟩
end Go.Proofs.Ythfeamlioiaebaa
