/- Rows of rows compared. -/
import Derived.Test.YthfeamlioiaebaaOrient2
import Derived.Test.YthfeamlioiaebaaTrans
set_option linter.unusedVariables false
set_option linter.unusedSimpArgs false
namespace Go.Proofs.Ythfeamlioiaebaa
open Go.RowKit Go.Par

set_option maxRecDepth 100000 in
set_option maxHeartbeats 800000 in
/-- two equal lists of rows compare as equal -/
theorem Rows_any (L : List (List P2)) (A B : Option Addr) (c d n : Nat) (w : World) (hn : n = L.length) (hc : n ≤ 1000000) (hr : ∀ r ∈ L, r.length ≤ 1000000) (hA : RingsAt w A L) (hB : RingsAt w B L) :
    Calls Try.prog 36 #[.slice A n c, .slice B n d] w fun e w' => e = .returned (.bool true) ∧ Ext w w' := by
  have HN := Lib.hid hn
  clear hn
  have HRR := Lib.hid hr
  clear hr
  go_enter Try.func36, Try.ntmps36
  go_wp2_with fail
  go_loopw [5] (fun i wr => ∃ k : Nat, k ≤ n ∧ i = .int .i64 k ∧ Ext w wr) (fun i _ => n - (intOf i).toNat)
  case atStart => exact ⟨0, Nat.zero_le _, rfl, Ext.refl w⟩
  case round =>
    obtain ⟨k, hk, rfl, hE⟩ := hrel
    by_cases hlt : k < n
    · obtain ⟨r, hlk⟩ : ∃ r, L[k]? = some r := ⟨_, List.getElem?_eq_getElem (by rw [← HN.out]; exact hlt)⟩
      obtain ⟨b, o, rfl, hcell⟩ := hA (fun e => by rw [e] at hlk; simp at hlk)
      obtain ⟨v, c0, A1, c1, rfl, hlc1, hlb1, hP1⟩ := hcell k r hlk
      obtain ⟨b', o', rfl, hcell'⟩ := hB (fun e => by rw [e] at hlk; simp at hlk)
      obtain ⟨v', d0, A2, c2, rfl, hlc2, hlb2, hP2⟩ := hcell' k r hlk
      have hr6 := HRR.out r (List.mem_of_getElem? hlk)
      have H1 := Lib.hid (fun W (h : Ext wr W) => Ring_any r r A1 A2 c1 c2 _ _ W rfl rfl hr6 hr6 ((hP1.ext hE).ext h) ((hP2.ext hE).ext h))
      rw [eqS_self] at H1
      have e0 := hE.cell c0
      have e1 := hE.cell d0
      generalize r.length = m1 at *
      clear hlk hcell hcell' c0 d0 hP1 hP2
      go_wp2_with fail
      apply wp_region_par' 10 (by kernel_rfl) (by kernel_rfl) rfl
      simp only [List.take_succ_cons, List.take_zero, List.drop_succ_cons, List.drop_zero]
      generalize hW : World.drew _ = W
      have hEW : Ext wr W := by rw [← hW]; exact Ext.drew _
      clear hW
      have g0 := fun z : Later W => z.cell (hEW.cell e0)
      have g1 := fun z : Later W => z.cell (hEW.cell e1)
      clear e0 e1
      iterate 10
        refine parW_step rfl (fun K hK => ?_)
        apply Exists.intro
        refine ⟨fun z => ?_, ?_⟩
        focus
          go_simp
          first
            | rfl
            | with_reducible exact calls_val (H1.out _ (hEW.later z))
        go_simp
        refine hK _ ?_
        clear hK K
      refine parW_end (fun z => ?_)
      have hE8 := hE.trans (hEW.later z)
      go_wp2
      go_roundw
      case rel => exact ⟨k + 1, by omega, by go_num, hE8⟩
      case measure => simp [intOf]; omega
    · go_wp2
      go_ret
      exact ⟨rfl, hE⟩
end Go.Proofs.Ythfeamlioiaebaa
