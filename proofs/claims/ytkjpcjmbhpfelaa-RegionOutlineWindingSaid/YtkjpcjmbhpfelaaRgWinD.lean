/- The reference's DoubleArea of a ring. -/
import Derived.Test.YtkjpcjmbhpfelaaRgOutO
set_option linter.unusedVariables false
set_option linter.unusedSimpArgs false
namespace Go.Proofs.Ytkjpcjmbhpfelaa
open Go.RowKit Go.Par Go.Reg Go.Maps

theorem pt_cell {w : World} {b o : Nat} {l : List (Int × Int)} (h : ptE.At w (some ⟨b, o, none⟩) l) {k : Nat} {p0 p1 : Int} (hk : l[k]? = some (p0, p1)) : w.cell? ⟨b, o + k * 2, none⟩ = some (.int .i64 p0) ∧ w.cell? ⟨b, o + k * 2 + 1, none⟩ = some (.int .i64 p1) :=
  ⟨h.cellAt (j := 0) hk rfl, h.cellAt (j := 1) hk rfl⟩
theorem mul_256 (x y : Int) : (x * 256) * (y * 256) = 65536 * (x * y) := by
  grind
theorem mul_bd {a b : Int} (h1 : -1048576 ≤ a ∧ a ≤ 1048576) (h2 : -1048576 ≤ b ∧ b ≤ 1048576) : -1099511627776 ≤ a * b ∧ a * b ≤ 1099511627776 := by
  have hn := Int.natAbs_mul a b
  have hle : (a * b).natAbs ≤ 1048576 * 1048576 := by rw [hn]; exact Nat.mul_le_mul (by omega) (by omega)
  omega
set_option maxRecDepth 100000 in
set_option maxHeartbeats 3200000 in
theorem rDouble_any (R : List Crn) (A : Option Addr) (n c : Nat) (w : World) (hn : R.length = n) (hb : n ≤ 2101248) (hne : R ≠ []) (hbd : ∀ x ∈ R, (-4096 ≤ x.1 ∧ x.1 ≤ 4096) ∧ (-4096 ≤ x.2.1 ∧ x.2.1 ≤ 4096)) (hA : ptE.At w A (R.map scl)) :
    Calls Try.prog 41 #[.slice A n c] w fun e w' => e = .returned (.int .i64 (65536 * cycTo fA R n)) ∧ Ext w w' := by
  have HN := Lib.hid hn
  have HNE := Lib.hid hne
  have HBD := Lib.hid hbd
  have hpos : 0 < n := by rw [← hn]; exact List.length_pos_iff.2 hne
  have HFB := Lib.hid (fA_bd hne hbd)
  rw [hn] at HFB
  have HCT := Lib.hid (fun k (hk : k < n) => cycTo_nx (f := fA) hne (k := k) (by rw [hn]; exact hk))
  have HNX := Lib.hid (fun k => nx_get hne k)
  rw [hn] at HNX
  have HNM := Lib.hid (fun k => hbd _ (nx_mem hne k))
  clear hn hne hbd
  go_enter Try.func41, Try.ntmps41
  go_wp2_with fail
  go_loopw [3, 4] (fun s i wr => ∃ k : Nat, k ≤ n ∧ i = .int .i64 k ∧ s = .int .i64 (65536 * cycTo fA R k) ∧ Ext w wr) (fun _ i _ => n - (intOf i).toNat)
  case atStart => exact ⟨0, Nat.zero_le _, rfl, rfl, Ext.refl _⟩
  case round =>
    obtain ⟨k, hk, rfl, rfl, hE⟩ := hrel
    by_cases hlt : k < n
    · have dk : ((k : Int) < (n : Int)) = True := eq_true (by omega)
      obtain ⟨j, hj⟩ : ∃ j, j = (k + 1) % n := ⟨_, rfl⟩
      have hjn : j < n := by rw [hj]; exact Nat.mod_lt _ hpos
      have hp := HNX.out k
      rw [Nat.mod_eq_of_lt hlt] at hp
      have hq := HNX.out (k + 1)
      rw [← hj] at hq
      have bp := HNM.out k
      have bq := HNM.out (k + 1)
      have hct := HCT.out k hlt
      have hfb := HFB.out k hk
      generalize nx R k = p at *
      generalize nx R (k + 1) = q at *
      obtain ⟨p1, p2, pd⟩ := p
      obtain ⟨q1, q2, qd⟩ := q
      dsimp only at bp bq hct
      have hpm : (R.map scl)[k]? = some (p1 * 256, p2 * 256) := by rw [List.getElem?_map, hp]; rfl
      have hqm : (R.map scl)[j]? = some (q1 * 256, q2 * 256) := by rw [List.getElem?_map, hq]; rfl
      obtain ⟨b, o, rfl⟩ := hA.addr hpm
      obtain ⟨x0, x1⟩ := pt_cell hA hpm
      obtain ⟨y0, y1⟩ := pt_cell hA hqm
      replace x0 := hE.cell x0
      replace x1 := hE.cell x1
      replace y0 := hE.cell y0
      replace y1 := hE.cell y1
      have HX := Lib.hid (show 65536 * cycTo fA R (k + 1) = 65536 * cycTo fA R k + (p1 * 256) * (q2 * 256) - (p2 * 256) * (q1 * 256) from by
        rw [hct, mul_256, mul_256]
        unfold fA
        rw [Int.mul_add, Int.mul_sub]
        omega)
      generalize cycTo fA R k = ct at *
      obtain ⟨a1, h1⟩ : ∃ a, p1 * 256 = a := ⟨_, rfl⟩
      obtain ⟨a2, h2⟩ : ∃ a, p2 * 256 = a := ⟨_, rfl⟩
      obtain ⟨c1, h3⟩ : ∃ a, q1 * 256 = a := ⟨_, rfl⟩
      obtain ⟨c2, h4⟩ : ∃ a, q2 * 256 = a := ⟨_, rfl⟩
      obtain ⟨s0, hs0⟩ : ∃ s, 65536 * ct = s := ⟨_, rfl⟩
      rw [h1, h2, h3, h4, hs0] at HX
      rw [h1] at x0
      rw [h2] at x1
      rw [h3] at y0
      rw [h4] at y1
      have g1 := mul_bd (a := a1) (b := c2) (by omega) (by omega)
      have g2 := mul_bd (a := a2) (b := c1) (by omega) (by omega)
      have v1 : IntKind.i64.wrap (a1 * c2) = a1 * c2 := IntWalk.i64_in _ (by omega)
      have v2 : IntKind.i64.wrap (a2 * c1) = a2 * c1 := IntWalk.i64_in _ (by omega)
      have v3 : IntKind.i64.wrap (s0 + a1 * c2) = s0 + a1 * c2 := IntWalk.i64_in _ (by omega)
      have v4 : IntKind.i64.wrap (s0 + a1 * c2 - a2 * c1) = s0 + a1 * c2 - a2 * c1 := IntWalk.i64_in _ (by omega)
      have m1 := tmod_cast k n
      have m2 := emod_cast k n
      rw [← hj] at m1 m2
      have w1 : IntKind.i64.wrap ((k : Int) + 1) = (k : Int) + 1 := IntWalk.i64_in _ (by omega)
      have q3 : ¬ n = 0 := by omega
      have b5 := Box.new wr 54 #[.int .i64 c1, .int .i64 c2]
      have hEa := hE.trans (Ext.alloc wr (.cells #[.int .i64 c1, .int .i64 c2] 54))
      have HS0 := Lib.hid hs0
      rw [hs0]
      clear hp hq hpm hqm h1 h2 h3 h4 hj hct hfb bp bq hs0 g1 g2
      go_wp2_with fail
      apply wp_region_par' 19 (by kernel_rfl) (by kernel_rfl) rfl
      simp only [List.take_succ_cons, List.take_zero, List.drop_succ_cons, List.drop_zero]
      generalize hW : World.drew _ = W
      have hEW : Ext wr W := by rw [← hW]; exact (Ext.alloc _ _).trans (Ext.drew _)
      have b5' : Box W wr.heap.size 54 #[.int .i64 c1, .int .i64 c2] := by rw [← hW]; exact b5.drew
      clear hW b5
      have z0 := fun z : Later W => z.cell (hEW.cell x0)
      have z1 := fun z : Later W => z.cell (hEW.cell x1)
      have c5 := b5'.lcell
      iterate 19
        refine parW_step rfl (fun K hK => ?_)
        apply Exists.intro
        refine ⟨fun z => ?_, ?_⟩
        focus
          go_simp
          first
            | rfl
            | fail
        go_simp
        refine hK _ ?_
        clear hK K
      refine parW_end (fun z => ?_)
      have hE2 := hE.trans (hEW.later z)
      clear z0 z1 c5
      go_wp2
      go_roundw
      case rel => exact ⟨k + 1, by omega, by go_num, by rw [HX.out], hE2⟩
      case measure => simp [intOf]; omega
    · have dk : ((k : Int) < (n : Int)) = False := eq_false (by omega)
      have hkn : k = n := by omega
      subst hkn
      go_wp2
      go_ret
      exact ⟨rfl, hE⟩
end Go.Proofs.Ytkjpcjmbhpfelaa
