/- The reference's ConvexHull. -/
import Derived.Test.YthfeamlioiaebaaWrap
import Derived.Test.YthfeamlioiaebaaApp2
import Derived.Test.YthfeamlioiaebaaOrient
import Derived.Test.YthfeamlioiaebaaSimpl
set_option linter.unusedVariables false
set_option linter.unusedSimpArgs false
namespace Go.Proofs.Ythfeamlioiaebaa
open Go.RowKit Go.Par

def hullS (l : List P2) : List P2 := if validL [l] then hullG l else []
theorem gift_stop {L : List P2} {z p : P2} {k : Nat} {out : List P2} (hk : 0 < k) (h : p = z ∨ L.length < out.length) : giftF L z k p out = out := by
  obtain ⟨k, rfl⟩ : ∃ j, k = j + 1 := ⟨k - 1, by omega⟩
  unfold giftF
  rw [if_neg]
  rintro ⟨h1, h2⟩
  rcases h with h | h
  · exact h1 h
  · omega
theorem gift_go {L : List P2} {z p : P2} {k : Nat} {out : List P2} (h1 : p ≠ z) (h2 : out.length ≤ L.length) : giftF L z (k + 1) p out = giftF L z k (wrapS L p) (out ++ [p]) := by
  rw [giftF, if_pos ⟨h1, h2⟩]
theorem wrap_valid {L : List P2} (hv : ∀ p ∈ L, validS p = true) {a : P2} (ha : validS a = true) : validS (wrapS L a) = true := by
  have : ∀ (l : List P2) (c : P2), (∀ p ∈ l, validS p = true) → validS c = true → validS (l.foldl (stepW a) c) = true := by
    intro l
    induction l with
    | nil => intro c _ h; exact h
    | cons p l ih =>
      intro c hl hc
      rw [List.foldl_cons]
      refine ih _ (fun q hq => hl q (List.mem_cons_of_mem _ hq)) ?_
      rcases step_mem (a := a) (b := c) (p := p) with h | h
      · rw [h]; exact hl p (List.mem_cons_self ..)
      · rw [h]; exact hc
  exact this L a hv ha
theorem own_lt {w : World} {B g n cap : Nat} {l : List P2} (h : Own w B (.slice (some ⟨g, 0, none⟩) n cap) l) : g < w.heap.size := by
  obtain ⟨cur, _, _, hg, _⟩ := own_open h
  exact Box.lt (t := 24) (cs := cur) hg
theorem valid_all {l : List P2} (h : validL [l] = true) : ∀ p ∈ l, validS p = true := by
  rw [validL_one, Bool.and_eq_true, List.all_eq_true] at h
  exact h.2
set_option maxRecDepth 100000 in
set_option maxHeartbeats 800000 in
theorem rHull_any (l : List P2) (A : Option Addr) (c n : Nat) (w : World) (hn : n = l.length) (hlc : n ≤ c) (hc : n ≤ 1000000) (hP : PtsAt w A l) :
    Calls Try.prog 48 #[.slice A n c] w fun e w' => ∃ v, e = .returned v ∧ Ext w w' ∧ Own w' w.heap.size v (hullS l) := by
  have HN := Lib.hid hn
  have HS := Lib.hid (show hullS l = if validL [l] then hullG l else [] from rfl)
  by_cases h0 : n = 0
  · have e0 : hullS l = [] := by
      have : l = [] := List.eq_nil_of_length_eq_zero (by rw [← hn]; exact h0)
      subst this
      rfl
    have E := Lib.hid e0
    subst h0
    clear hn e0
    go_enter Try.func48, Try.ntmps48
    go_wp2
    go_ret
    exact ⟨_, rfl, Ext.alloc _ _, by rw [E.out]; exact Own.made w⟩
  · have d0 : ((n : Int) == 0) = false := by rw [beq_eq_false_iff_ne]; omega
    have hpos : 0 < n := by omega
    have HP0 := Lib.hid hP
    obtain ⟨⟨x, y⟩, hl0⟩ : ∃ q, l[0]? = some q := ⟨_, List.getElem?_eq_getElem (by rw [← hn]; exact hpos)⟩
    have HX := Lib.hid (atS_at hl0)
    obtain ⟨b, o, rfl, hcell⟩ := hP (fun e => by rw [e] at hl0; simp at hl0)
    have x0 := (hcell 0 _ hl0).1
    have x1 := (hcell 0 _ hl0).2
    simp only [Nat.zero_mul, Nat.add_zero] at x0 x1
    have HCELL := Lib.hid hcell
    clear hn hl0 hcell hP
    go_enter Try.func48, Try.ntmps48
    go_wp2_with fail
    refine (rvalid_one l _ c n _ _ HN.out hlc (by omega) Box.at1 (HP0.out.ext ((Ext.alloc _ _).trans (Ext.alloc _ _)))).mono ?_
    rintro e w1 ⟨rfl, hE1⟩
    have hE := ((Ext.alloc _ _).trans (Ext.alloc _ _)).trans hE1
    have hown0 := ((Own.made w).ext (Ext.alloc _ _)).ext hE1
    have hsz1 : w.heap.size + 2 ≤ w1.heap.size := by
      have := hE1.size
      simp at this
      omega
    clear hE1
    cases hv : validL [l]
    · have E := Lib.hid (show hullS l = [] from by rw [HS.out, hv]; rfl)
      clear hv HS
      go_wp2
      go_ret
      exact ⟨_, rfl, hE, by rw [E.out]; exact hown0⟩
    · have HU := Lib.hid (show hullS l = if (giftS l).length < 3 then [] else giftS l from by
        rw [HS.out, hv]
        show hullG l = _
        unfold hullG
        rw [if_neg (fun e => by have := HN.out; rw [e] at this; simp at this; omega)])
      have HV := Lib.hid (valid_all hv)
      clear hv HS
      replace x0 := hE.cell x0
      replace x1 := hE.cell x1
      go_wp2_with fail
      clear x0 x1
      have hB := Box.new w1 24 #[.int .i64 x, .int .i64 y]
      go_loopw [5] (fun i wr => ∃ (k : Nat) (f1 f2 : Int), k ≤ n ∧ i = .int .i64 k ∧ Ext w1 wr ∧ Box wr w1.heap.size 24 #[.int .i64 f1, .int .i64 f2] ∧ Hid ((l.take k).foldl minStep (atS l 0) = (f1, f2))) (fun i _ => n - (intOf i).toNat)
      case atStart => exact ⟨0, x, y, Nat.zero_le _, rfl, Ext.alloc _ _, hB, Lib.hid HX.out⟩
      case round =>
        clear hB
        obtain ⟨k, f1, f2, hk, rfl, hE2, hB, HF⟩ := hrel
        by_cases hlt : k < n
        · obtain ⟨⟨p1, p2⟩, hlk⟩ : ∃ q, l[k]? = some q := ⟨_, List.getElem?_eq_getElem (by rw [← HN.out]; exact hlt)⟩
          have hst := foldl_take minStep (atS l 0) hlk
          rw [HF.out] at hst
          have HST := Lib.hid hst
          have y0 := (hE.trans hE2).cell (HCELL.out k _ hlk).1
          have y1 := (hE.trans hE2).cell (HCELL.out k _ hlk).2
          clear hlk hst
          have hb4 := hB.lt
          generalize hb : w1.heap.size = b4 at *
          go_wp2_with fail
          apply wp_region_par' 6 (by kernel_rfl) (by kernel_rfl) rfl
          simp only [List.take_succ_cons, List.take_zero, List.drop_succ_cons, List.drop_zero]
          generalize hW : World.drew _ = W
          have hEW : Ext wr W := by rw [← hW]; exact Ext.drew _
          clear hW
          have e0 := fun z : Later W => z.cell (hEW.cell y0)
          have e1 := fun z : Later W => z.cell (hEW.cell y1)
          have c4 := (hB.ext hEW).lcell
          iterate 6
            refine parW_step rfl (fun K hK => ?_)
            apply Exists.intro
            refine ⟨fun z => ?_, ?_⟩
            focus
              go_simp
              first
                | rfl
                | with_reducible exact calls_val (rLess_any _ _ _ _ _)
            go_simp
            refine hK _ ?_
            clear hK K
          refine parW_end (fun z => ?_)
          have hEz := hEW.later z
          clear e0 e1 c4
          replace hE2 := hE2.trans hEz
          replace hB := hB.ext hEz
          replace y0 := hEz.cell y0
          replace y1 := hEz.cell y1
          have c4 := hB.cell
          have r4 := hB.frozen
          clear hEz
          generalize z.val = Z at *
          clear z hEW
          cases hls : lessS (p1, p2) (f1, f2)
          · have HL := Lib.hid (show minStep (f1, f2) (p1, p2) = (f1, f2) from by unfold minStep; rw [hls]; rfl)
            clear hls y0 y1 c4 r4
            go_wp2
            go_roundw
            case rel => exact ⟨k + 1, f1, f2, by omega, by go_num, hE2, hB, by rw [HST.out, HL.out]; exact Lib.hid rfl⟩
            case measure => simp [intOf]; omega
          · have HL := Lib.hid (show minStep (f1, f2) (p1, p2) = (p1, p2) from by unfold minStep; rw [hls]; rfl)
            clear hls
            go_wp2
            go_roundw
            case rel => exact ⟨k + 1, p1, p2, by omega, by go_num, (hE2.setNew (by omega) _ _).setNew (by omega) _ _, (hB.set 0 _).set 1 _, by rw [HST.out, HL.out]; exact Lib.hid rfl⟩
            case measure => simp [intOf]; omega
        · have hfin : l.take k = l := List.take_of_length_le (by rw [← HN.out]; omega)
          have hfx := HF.out
          rw [hfin] at hfx
          have HFI := Lib.hid (show firstS l = (f1, f2) from hfx)
          have hfv : validS (f1, f2) = true := by
            rw [← HFI.out]
            exact HV.out _ (first_min HV.out (fun e => by have := HN.out; rw [e] at this; simp at this; omega)).1
          have HFV := Lib.hid hfv
          have HG0 := Lib.hid (show giftF l (f1, f2) (n + 2) (wrapS l (f1, f2)) [(f1, f2)] = giftS l from by unfold giftS; rw [HFI.out, HN.out])
          replace hown0 := hown0.ext hE2
          replace hE := hE.trans hE2
          have c4 := hB.cell
          have hb4 := hB.lt
          have hne4 : w.heap.size ≠ w1.heap.size := by omega
          have hsw := hE.size
          clear hfin hfx hfv hsz1 hE2
          generalize hb : w1.heap.size = b4 at *
          clear hb
          go_wp2_with (at_builtin; refine wpList_app2 rfl _ _ rfl w.heap.size (.slice (some ⟨w.heap.size, 0, none⟩) 0 0) _ _ _ rfl rfl (hown0.ext (Ext.alloc _ _)) (Pts.one (Box.new _ _ _)) (by simp) (by simp) (by simp; omega) ?_; intro g cap w' hown' hg hgb; have hB3 := box_grown (hB.ext (Ext.alloc _ _)) hg (by simp [Value.ownBlock]; exact hne4); have c43 := hB3.cell; clear c4)
          have hE3 := Ext.grow (hE.trans (Ext.alloc _ _)) (hown0.ext (Ext.alloc _ _)) (Nat.le_refl _) hg
          have hgne : g ≠ b4 := by
            rcases hgb with h | h
            · simp [Value.ownBlock] at h; omega
            · rw [h]; simp; omega
          clear hg hgb hB hown0 hE hb4 hsw
          simp only [List.nil_append, List.length_nil, List.length_cons, Nat.zero_add] at hown'
          refine (wrap_any l _ c n f1 f2 _ HN.out hc (HP0.out.ext hE3) HV.out HFV.out).mono ?_
          rintro e w2 ⟨rfl, hE4⟩
          have hWV := Lib.hid (wrap_valid HV.out HFV.out)
          generalize wrapS l (f1, f2) = p0 at *
          obtain ⟨p1, p2⟩ := p0
          replace hown' := hown'.ext hE4
          have hB4 := hB3.ext hE4
          have hE5 := hE3.trans hE4
          have c44 := hB4.cell
          clear hE4 hE3 hB3 c43
          go_wp2_with fail
          have hB6 := Box.new w2 24 #[.int .i64 p1, .int .i64 p2]
          clear c44
          have hgl0 := own_lt hown'
          go_loopw [3, 6] (fun s q wr => ∃ (out : List P2) (p1 p2 : Int) (b6 g cap m : Nat), q = .pointer (some ⟨b6, 0, none⟩) ∧ s = .slice (some ⟨g, 0, none⟩) m cap ∧ Hid (m = out.length) ∧ Box wr b6 24 #[.int .i64 p1, .int .i64 p2] ∧ Box wr b4 24 #[.int .i64 f1, .int .i64 f2] ∧ Ext w wr ∧ Own wr w.heap.size (.slice (some ⟨g, 0, none⟩) m cap) out ∧ g ≠ b4 ∧ g ≠ b6 ∧ 1 ≤ m ∧ m ≤ n + 1 ∧ Hid (giftF l (f1, f2) (n + 3 - m) (p1, p2) out = giftS l) ∧ Hid (validS (p1, p2) = true)) (fun s _ _ => n + 2 - slLen s)
          case atStart => exact ⟨[(f1, f2)], p1, p2, _, g, cap, 1, rfl, rfl, Lib.hid rfl, hB6, hB4.ext (Ext.alloc _ _), hE5.trans (Ext.alloc _ _), hown'.ext (Ext.alloc _ _), hgne, Nat.ne_of_lt hgl0, Nat.le_refl _, by omega, Lib.hid (by rw [show n + 3 - 1 = n + 2 by omega]; exact HG0.out), hWV⟩
          case round =>
            clear hB6 hB4 hE5 hown' hgne hWV hgl0
            obtain ⟨out, p1, p2, b6, g, cap, m, rfl, rfl, HM, hB6, hB4, hE, hown, hgne, hg6, hm1, hm2, HG, HPV⟩ := hrel
            have c6 := hB6.cell
            have c4 := hB4.cell
            by_cases hpf : p1 = f1 ∧ p2 = f2
            · have d1 : (!decide (p1 = f1) || !decide (p2 = f2)) = false := by simp [hpf.1, hpf.2]
              have HZ := Lib.hid (show (p1, p2) = (f1, f2) from by rw [hpf.1, hpf.2])
              clear hpf
              have HR := Lib.hid (show giftS l = out from HG.out.symm.trans (gift_stop (by omega) (.inl HZ.out)))
              by_cases h3 : m < 3
              · have HE := Lib.hid (show hullS l = [] from by rw [HU.out, HR.out, if_pos (by rw [← HM.out]; exact h3)])
                have hsz := hE.size
                clear hB6 hB4
                go_wp2
                go_ret
                exact ⟨_, rfl, hE.trans (Ext.alloc _ _), by rw [HE.out]; exact (Own.made wr).base hsz⟩
              · have HE := Lib.hid (show hullS l = out from by rw [HU.out, HR.out, if_neg (by rw [← HM.out]; exact h3)])
                clear hB6 hB4
                go_wp2
                go_ret
                exact ⟨_, rfl, hE, by rw [HE.out]; exact hown⟩
            · have hne : ¬ (p1, p2) = (f1, f2) := fun e => hpf (by injection e with e1 e2; exact ⟨e1, e2⟩)
              have HNEQ := Lib.hid hne
              have d1 : (!decide (p1 = f1) || !decide (p2 = f2)) = true := by
                by_cases h1 : p1 = f1
                · rw [decide_eq_false (p := p2 = f2) (fun h2 => hpf ⟨h1, h2⟩)]; simp
                · rw [decide_eq_false (p := p1 = f1) h1]; rfl
              clear hne hpf
              by_cases hmn : m ≤ n
              · have hgo := gift_go (L := l) (k := n + 2 - m) HNEQ.out (by rw [← HM.out, ← HN.out]; exact hmn)
                rw [show n + 2 - m + 1 = n + 3 - m by omega, HG.out] at hgo
                have HGO := Lib.hid hgo
                have HWV := Lib.hid (wrap_valid HV.out HPV.out)
                have hsw := hE.size
                have hb4 := hB4.lt
                have hlen : out.length + 1 ≤ 1000000000 := by have := HM.out; omega
                clear hgo
                go_wp2_with (at_builtin; refine wpList_app2 rfl _ _ rfl w.heap.size (.slice (some ⟨g, 0, none⟩) m cap) _ _ _ rfl rfl (hown.ext (Ext.alloc _ _)) (Pts.one (Box.new _ _ _)) (by simp) hlen (by simp; omega) ?_; intro g' cap' w' hown' hg hgb; have hB3 := box_grown (hB4.ext (Ext.alloc _ _)) hg (by simp [Value.ownBlock]; exact hgne); have hB63 := box_grown (hB6.ext (Ext.alloc _ _)) hg (by simp [Value.ownBlock]; exact hg6); have c43 := hB3.cell; have c63 := hB63.cell; clear c4 c6)
                have hE3 := Ext.grow (hE.trans (Ext.alloc _ _)) (hown.ext (Ext.alloc _ _)) (Nat.le_refl _) hg
                have hgne' : g' ≠ b4 := by
                  rcases hgb with h | h
                  · simp [Value.ownBlock] at h; omega
                  · rw [h]; simp; omega
                have hgl := own_lt hown'
                clear hg hgb c43 c63 hB63 hB6 hB4 hE
                refine (wrap_any l _ c n p1 p2 _ HN.out hc (HP0.out.ext (hE3.trans (Ext.alloc _ _))) HV.out HPV.out).mono ?_
                rintro e w2 ⟨rfl, hE4⟩
                have hB6' := (Box.new w' 24 #[.int .i64 p1, .int .i64 p2]).ext hE4
                have c6 := hB6'.cell
                have r6 := hB6'.frozen
                have hE5 := (Ext.alloc _ _).trans hE4
                have hE6 := hE3.trans hE5
                have hb4' := hB3.lt
                replace hB3 := hB3.ext hE5
                have hsz3 := hE3.size
                have hl2 : out.length + 1 = m + 1 := by have := HM.out; omega
                rw [show out.length + ([(p1, p2)] : List P2).length = m + 1 from hl2] at hown'
                rw [hl2]
                have HM' := Lib.hid (show m + 1 = (out ++ [(p1, p2)]).length by simp; have := HM.out; omega)
                generalize wrapS l (p1, p2) = p0 at *
                obtain ⟨q1, q2⟩ := p0
                clear hE4 hlen hl2
                go_wp2
                go_roundw
                case rel => exact ⟨out ++ [(p1, p2)], q1, q2, w'.heap.size, g', cap', m + 1, rfl, rfl, HM', (hB6'.set 0 _).set 1 _, (hB3.far (by simp; omega) _).far (by simp; omega) _, (hE6.setNew (by omega) _ _).setNew (by omega) _ _, hown'.ext ((hE5.setNew (Nat.le_refl _) _ _).setNew (Nat.le_refl _) _ _), hgne', Nat.ne_of_lt hgl, by omega, by omega, by rw [show n + 3 - (m + 1) = n + 2 - m by omega]; exact Lib.hid HGO.out.symm, HWV⟩
                case measure => simp only [slLen]; omega
              · have HLT := Lib.hid (show l.length < out.length by rw [← HM.out, ← HN.out]; omega)
                have HR := Lib.hid (show giftS l = out from HG.out.symm.trans (gift_stop (by omega) (.inr HLT.out)))
                by_cases h3 : m < 3
                · have HE := Lib.hid (show hullS l = [] from by rw [HU.out, HR.out, if_pos (by rw [← HM.out]; exact h3)])
                  have hsz := hE.size
                  clear hB6 hB4
                  go_wp2
                  go_ret
                  exact ⟨_, rfl, hE.trans (Ext.alloc _ _), by rw [HE.out]; exact (Own.made wr).base hsz⟩
                · have HE := Lib.hid (show hullS l = out from by rw [HU.out, HR.out, if_neg (by rw [← HM.out]; exact h3)])
                  clear hB6 hB4
                  go_wp2
                  go_ret
                  exact ⟨_, rfl, hE, by rw [HE.out]; exact hown⟩
end Go.Proofs.Ythfeamlioiaebaa
