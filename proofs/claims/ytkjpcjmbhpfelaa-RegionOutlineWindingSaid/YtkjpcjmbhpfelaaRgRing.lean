/- Outlines of the program: the edge that follows. -/
import Derived.Test.YtkjpcjmbhpfelaaRgOutX
import Derived.Test.YtkjpcjmbhpfelaaRgOutC
set_option linter.unusedVariables false
set_option linter.unusedSimpArgs false
namespace Go.Proofs.Ytkjpcjmbhpfelaa
open Go.RowKit Go.Par Go.Reg Go.Maps

theorem edg_cell {w : World} {b o : Nat} {l : List Edg} (h : edgE.At w (some ⟨b, o, none⟩) l) {k : Nat} {e : Edg} (hk : l[k]? = some e) :
    w.cell? ⟨b, o + k * 5, none⟩ = some (.int .i64 e.1) ∧ w.cell? ⟨b, o + k * 5 + 1, none⟩ = some (.int .i64 e.2.1) ∧ w.cell? ⟨b, o + k * 5 + 2, none⟩ = some (.int .i64 e.2.2.1) ∧
    w.cell? ⟨b, o + k * 5 + 3, none⟩ = some (.int .i64 e.2.2.2.1) ∧ w.cell? ⟨b, o + k * 5 + 4, none⟩ = some (.int .i64 (e.2.2.2.2 : Int)) :=
  ⟨h.cellAt (j := 0) hk rfl, h.cellAt (j := 1) hk rfl, h.cellAt (j := 2) hk rfl, h.cellAt (j := 3) hk rfl, h.cellAt (j := 4) hk rfl⟩
/-- the numbers of the edges that begin at (x, y) -/
def StartsAt (E : List Edg) (x y : Int) (ns : List Int) : Prop := ∀ v, v ∈ ns ↔ ∃ (j : Nat) (f : Edg), v = (j : Int) ∧ E[j]? = some f ∧ f.1 = x ∧ f.2.1 = y
set_option maxRecDepth 100000 in
set_option maxHeartbeats 3200000 in
theorem successor_any (S : Pix) (E : List Edg) (A : Option Addr) (n c b i : Nat) (x y x' y' : Int) (d : Nat) (ns : List Int) (A2 : Option Addr) (m c2 : Nat) (w : World) (hS : EdgeSys S E) (hn : E.length = n) (hb : n ≤ 10000000) (hA : edgE.At w A E)
    (hi : E[i]? = some (x, y, x', y', d)) (hns : StartsAt E x' y' ns) (hm : ns.length = m) (hmb : m ≤ 10000000) (hA2 : intE.At w A2 ns)
    (hlk : ∀ W, Ext w W → (Instr.lookup 77 (.map (some b)) (.agg #[.int .i64 x', .int .i64 y']) false).run Try.prog W = .ok (.slice A2 m c2) W) :
    Calls Try.prog 69 #[.agg #[.int .i64 x, .int .i64 y, .int .i64 x', .int .i64 y', .int .i64 (d : Int)], .slice A n c, .map (some b)] w fun e w' => ∃ j : Nat, e = .returned (.int .i64 (j : Int)) ∧ Ext w w' ∧ NextE S E i j := by
  have hd := shape_dir (hS.shape _ (List.mem_of_getElem? hi))
  dsimp only at hd
  obtain ⟨D, hD⟩ : ∃ D, (d + 1) % 4 = D := ⟨_, rfl⟩
  have hDb : D < 4 := by rw [← hD]; exact Nat.mod_lt _ (by omega)
  have q1 : IntKind.i64.wrap ((d : Int) + 1) = (d : Int) + 1 := IntWalk.i64_in _ (by omega)
  have q2 : ((d : Int) + 1).tmod 4 = (D : Int) := by rw [← hD]; exact tmod_cast d 4
  have q3 : ((d : Int) + 1) % 4 = (D : Int) := by rw [← hD]; exact emod_cast d 4
  have HD := Lib.hid hD
  have HN := Lib.hid hn
  have HM := Lib.hid hm
  have HNS := Lib.hid hns
  have HS := Lib.hid hS
  have HI := Lib.hid hi
  have HLK := Lib.hid hlk
  have hE0 := Ext.alloc w (.cells #[.int .i64 x, .int .i64 y, .int .i64 x', .int .i64 y', .int .i64 (d : Int)] 79)
  have b3 := Box.new w 79 #[.int .i64 x, .int .i64 y, .int .i64 x', .int .i64 y', .int .i64 (d : Int)]
  have c3 := b3.cell
  have hl := HLK.out _ hE0
  obtain ⟨B3, hB3⟩ : ∃ B3, w.heap.size = B3 := ⟨_, rfl⟩
  rw [hB3] at b3 c3
  clear hD hd hn hm hns hS hi hlk
  go_enter Try.func69, Try.ntmps69
  go_wp2_with fail
  clear hl c3
  generalize hw1 : World.alloc _ _ = w1 at *
  clear hw1 hB3
  go_loopw [16] (fun i wr => ∃ k : Nat, k ≤ m ∧ i = .int .i64 k ∧ Ext w wr ∧ Box wr B3 79 #[.int .i64 x, .int .i64 y, .int .i64 x', .int .i64 y', .int .i64 (d : Int)] ∧ Hid (∀ (t j : Nat) (f : Edg), t < k → ns[t]? = some (j : Int) → E[j]? = some f → f.2.2.2.2 ≠ D)) (fun i _ => m - (intOf i).toNat)
  case atStart => exact ⟨0, Nat.zero_le _, rfl, hE0, b3, Lib.hid (fun t j f h => by omega)⟩
  case round =>
    clear hE0 b3
    obtain ⟨k, hk, rfl, hE, b3, HK⟩ := hrel
    by_cases hlt : k < m
    · have dk : ((k : Int) < (m : Int)) = True := eq_true (by omega)
      obtain ⟨v, hv⟩ : ∃ v, ns[k]? = some v := ⟨_, List.getElem?_eq_getElem (by rw [HM.out]; exact hlt)⟩
      obtain ⟨j, ⟨a, b', a', b'', g⟩, rfl, hj, hf1, hf2⟩ := (HNS.out v).1 (List.mem_of_getElem? hv)
      have hjn : j < n := by rw [← HN.out]; exact (List.getElem?_eq_some_iff.1 hj).1
      obtain ⟨bA, oA, rfl⟩ := hA.addr hj
      obtain ⟨b2, o2, rfl⟩ := hA2.addr hv
      have e0 := hE.cell (int_cell hA2 hv)
      have e4 := hE.cell (edg_cell hA hj).2.2.2.2
      dsimp only at e4 hf1 hf2
      have c3 := b3.cell
      have HV := Lib.hid hv
      have HJ := Lib.hid hj
      have HF := Lib.hid (And.intro hf1 hf2)
      have g1 : (0 : Int) ≤ (j : Int) := by omega
      have g2 : (j : Int) < (n : Int) := by omega
      clear hv hj hf1 hf2
      by_cases hg : g = D
      · subst hg
        have HX := Lib.hid (HS.out.choice HI.out HJ.out HF.out.1 HF.out.2 (.inl HD.out.symm))
        have d1 : ((g : Int) == (g : Int)) = true := by simp
        go_wp2_with fail
        go_quiet (fail)
        go_wp2
        go_ret
        exact ⟨j, rfl, hE.drewN _, HX.out⟩
      · have d1 : ((g : Int) == (D : Int)) = false := by simp; omega
        have d2 : ((g : Int) = (D : Int)) = False := eq_false (by omega)
        have d3 : (g = D) = False := eq_false hg
        have HG := Lib.hid hg
        clear hg
        go_wp2_with fail
        go_quiet (fail)
        go_wp2
        go_roundw
        case rel => exact ⟨k + 1, by omega, by go_num, hE.drewN _, b3.ext ((Ext.refl _).drewN _), Lib.hid (fun t j' f h1 h2 h3 => by
          by_cases e : t = k
          · subst e
            rw [HV.out] at h2
            injection h2 with h2
            have : j = j' := by omega
            subst this
            rw [HJ.out] at h3
            injection h3 with h3
            subst h3
            exact HG.out
          · exact HK.out t j' f (by omega) h2 h3)⟩
        case measure => simp [intOf]; omega
    · have dk : ((k : Int) < (m : Int)) = False := eq_false (by omega)
      have hne : ns ≠ [] := fun e => by
        obtain ⟨j, ej, f, h1, h2, h3, h4, _⟩ := HS.out.next HI.out
        rw [HI.out] at h1
        injection h1 with h1
        subst h1
        have := (HNS.out _).2 ⟨j, f, rfl, h2, h3, h4⟩
        rw [e] at this
        cases this
      have hm0 : 0 < m := by rw [← HM.out]; exact List.length_pos_iff.2 hne
      obtain ⟨v, hv⟩ : ∃ v, ns[0]? = some v := ⟨_, List.getElem?_eq_getElem (by rw [HM.out]; exact hm0)⟩
      obtain ⟨j, f, rfl, hj, hf1, hf2⟩ := (HNS.out v).1 (List.mem_of_getElem? hv)
      have HX := Lib.hid (HS.out.choice HI.out hj hf1 hf2 (.inr (fun k' g' h1 h2 h3 h4 => by
        dsimp only at h2 h3 h4
        obtain ⟨t, ht⟩ := List.mem_iff_getElem?.1 ((HNS.out (k' : Int)).2 ⟨k', g', rfl, h1, h2, h3⟩)
        have hl := (List.getElem?_eq_some_iff.1 ht).1
        rw [HM.out] at hl
        exact HK.out t k' g' (by omega) ht h1 (h4.trans HD.out))))
      obtain ⟨b2, o2, rfl⟩ := hA2.addr hv
      have e0 := hE.cell (int_cell hA2 hv)
      rw [Nat.add_zero] at e0
      have p0 : ((0 : Int) < (m : Int)) = True := eq_true (by omega)
      clear hne hv hj hf1 hf2
      go_wp2
      go_ret
      exact ⟨j, rfl, hE, HX.out⟩
end Go.Proofs.Ytkjpcjmbhpfelaa
