/- Texts put together: TyH, TyI. -/
import Derived.Test.YtodefmfgoehkhaaGreatTyG
import Derived.Test.YtodefmfgoehkhaaGreatZC
/- scanline.Spans: the spans that are filled on a scanline. -/
set_option linter.unusedVariables false
set_option linter.unusedSimpArgs false
namespace Go.Proofs.YtodefmfgoehkhaaGreat
open Go.RowKit Go.Par Go.Shelf Go.TN Go.Lib
open Go.TA (E2 Mk leM Sp Chain mergeL mergeStep nonempty MarksOf spansOf upSum)

/-- what Spans hands back -/
def SpansPost (w : World) (L : List (List P2)) (rule : Int) (y : Rat) (k : Nat) (e : Ending) (w' : World) : Prop :=
  ∃ v M, e = .returned v ∧ Ext w w' ∧ OwnC spE w' w.heap.size v M ∧ SpOk w' k M ∧ (∃ ms, MarksOf (edgesL L) y ms ∧ M.map spOf = mergeL ((spansOf (fun n => fillsS n rule) 0 ms).filter nonempty)) ∧ M.length ≤ 19
theorem cells5 {w : World} {A : Option Addr} {l : List MkR} {k : Nat} {x : MkR} (h : mkE.At w A l) (hx : l[k]? = some x) : ∃ b o, A = some ⟨b, o, none⟩ := by
  obtain ⟨b, o, e, _⟩ := h (by rintro rfl; simp at hx)
  exact ⟨b, o, e⟩
set_option maxRecDepth 100000 in
set_option maxHeartbeats 1600000 in
theorem Spans_any (L : List (List P2)) (A : Option Addr) (c : Nat) {u : Value} {y : Rat} {k : Nat} (rule : Int) (w : World) (hS : lenS L ≤ 19) (hLn : L.length ≤ 1000) (hv : validL L = true) (hL : RingsAt w A L) (hu : RV w u y) (hs : Sz k y) (hk : k ≤ 100000) :
    Calls Tryz.prog 41 #[.slice A L.length c, .int .i64 rule, u] w (SpansPost w L rule y (k + 10)) := by
  obtain ⟨yq, rfl, hyq, hya⟩ := hu.rq
  subst hyq
  have hE := Ext.alloc w (.cells #[.bool yq.b, .slice yq.A yq.n yq.c, .bool yq.b', .slice yq.A' yq.n' yq.c'] 29)
  have HMK := Lib.hid (marks_any L A c _ hS hLn hv (hL.ext hE) (hya.ext hE).rv hs hk)
  have HS := Lib.hid hS
  clear hL hu hs hv hS
  obtain ⟨n, hn⟩ : ∃ n, n = L.length := ⟨_, rfl⟩
  rw [← hn] at HMK ⊢
  clear hn hLn
  unfold RQ.v at HMK ⊢
  go_enter Tryz.func41, Tryz.ntmps41
  go_wp2_with fail
  refine HMK.out.mono ?_
  rintro e w1 ⟨v, M, rfl, hE1, hown, hM, hMO, hML⟩
  replace hE := hE.trans hE1
  obtain ⟨m, hm⟩ : ∃ m, M.length = m := ⟨_, rfl⟩
  have hm19 : m ≤ 19 := by have := HS.out; omega
  obtain ⟨Am, cm, rfl, hcm, hat⟩ := hown.own.at hm (by omega)
  have hup := Go.TA.marks_up hMO
  have hbd : ∀ j, -19 ≤ upSum ((M.map mkOf).take j) ∧ upSum ((M.map mkOf).take j) ≤ 19 := fun j => by
    have h1 := Go.TA.upSum_bd (l := (M.map mkOf).take j) fun x hx => hup x (List.mem_of_mem_take hx)
    have h2 : ((M.map mkOf).take j).length ≤ m := by rw [List.length_take, List.length_map]; omega
    omega
  have HBD := Lib.hid hbd
  have HM := Lib.hid hM
  have HMO := Lib.hid hMO
  have HMM := Lib.hid hm
  have HAT := Lib.hid hat
  clear hE1 hown hM hMO hML hup hbd hm hat HMK HS hya
  go_wp2_with fail
  go_loopw [7, 8, 10, 11, 17] (fun v s _ _ i wr => ∃ (j : Nat) (s' : Int) (I : List SpR), j ≤ m ∧ i = .int .i64 j ∧ s = .int .i64 s' ∧ Ext w1 wr ∧ OwnC spE wr w1.heap.size v I ∧ Hid (s' = upSum ((M.map mkOf).take j) ∧ SpOk wr (k + 10) I ∧ I.map spOf = spansOf (fun n => fillsS n rule) 0 ((M.map mkOf).take (j + 1)) ∧ I.length ≤ j)) (fun _ _ _ _ i _ => m - (intOf i).toNat)
  case atStart => exact ⟨0, 0, [], by omega, rfl, rfl, Ext.refl _, OwnC.nil _ _, Lib.hid ⟨rfl, SpOk.nil _ _, (Go.TA.spansOf_one _ _).symm, by simp⟩⟩
  case round =>
    obtain ⟨j, s, I, hj, rfl, rfl, hE1, hown, HI⟩ := hrel
    by_cases hlt : j < m
    · obtain ⟨x, hx⟩ : ∃ x, M[j]? = some x := ⟨_, List.getElem?_eq_getElem (by rw [HMM.out]; exact hlt)⟩
      obtain ⟨b, o, rfl, hc⟩ := HAT.out (by rintro rfl; simp at hx)
      obtain ⟨x0, x1, x2, x3, x4⟩ := at5 hc hx
      have e0 := hE1.cell x0
      have e1 := hE1.cell x1
      have e2 := hE1.cell x2
      have e3 := hE1.cell x3
      have e4 := hE1.cell x4
      have hxm : (M.map mkOf)[j]? = some (mkOf x) := by rw [List.getElem?_map, hx]; rfl
      have HX := Lib.hid (HM.out x (List.mem_of_getElem? hx))
      obtain ⟨s2, hs2⟩ : ∃ s2, s2 = s + x.2 := ⟨_, rfl⟩
      have hs2u : s2 = upSum ((M.map mkOf).take (j + 1)) := by rw [Go.TA.upSum_step hxm, hs2, HI.out.1]; rfl
      have HU2 := Lib.hid hs2u
      have bd := HBD.out (j + 1)
      rw [← hs2u] at bd
      have w1' : IntKind.i64.wrap (s + x.2) = s2 := by rw [← hs2]; exact IntWalk.i64_in _ (by omega)
      obtain ⟨j', hj'⟩ : ∃ j', j' = j + 1 := ⟨_, rfl⟩
      have w2 : IntKind.i64.wrap ((j : Int) + 1) = (j' : Int) := (IntWalk.i64_in _ (by omega)).trans (by omega)
      have hEA := Ext.alloc wr (.cells #[.bool x.1.b, .slice x.1.A x.1.n x.1.c, .bool x.1.b', .slice x.1.A' x.1.n' x.1.c', .int .i64 x.2] 110)
      have xb := Box.new wr 110 #[.bool x.1.b, .slice x.1.A x.1.n x.1.c, .bool x.1.b', .slice x.1.A' x.1.n' x.1.c', .int .i64 x.2]
      have hlI := HI.out.2.2.2
      by_cases hlt2 : j' < m
      · obtain ⟨x', hx'⟩ : ∃ x, M[j']? = some x := ⟨_, List.getElem?_eq_getElem (by rw [HMM.out]; exact hlt2)⟩
        obtain ⟨y0, y1, y2, y3, y4⟩ := at5 hc hx'
        have hxm' : (M.map mkOf)[j + 1]? = some (mkOf x') := by rw [← hj', List.getElem?_map, hx']; rfl
        have HX' := Lib.hid (HM.out x' (List.mem_of_getElem? hx'))
        have HSP := Lib.hid (Go.TA.spansOf_step (fills := fun n => fillsS n rule) hxm hxm')
        have HF := Lib.hid (fun W => Fills_any s2 rule W (by omega) (by omega))
        have d1 : ((j' : Int) < (m : Int)) = True := eq_true (by omega)
        obtain ⟨ff, hff⟩ : ∃ ff, fillsS s2 rule = ff := ⟨_, rfl⟩
        rw [hff] at HF
        have HFF := Lib.hid hff
        have HJ' := Lib.hid hj'
        have q0 := hE1.cell y0
        have q1 := hE1.cell y1
        have q2 := hE1.cell y2
        have q3 := hE1.cell y3
        clear x0 x1 x2 x3 x4 y0 y1 y2 y3 y4 hc hxm hxm' hs2 hs2u hff hj' hx hx'
        go_wp2_with fail
        refine (HF.out _).mono ?_
        rintro e w3 ⟨rfl, hEF⟩
        replace xb := xb.ext hEF
        have hE3 := hEA.trans hEF
        have f0 := hE3.cell q0
        have f1 := hE3.cell q1
        have f2 := hE3.cell q2
        have f3 := hE3.cell q3
        replace hown := hown.ext hE3
        have hE4 := hE1.trans hE3
        have HO := Lib.hid (HI.out.2.1.ext hE3)
        have HX3 := Lib.hid (show (x.1.At w3 ∧ x'.1.At w3) from ⟨HX.out.1.ext hE4, HX'.out.1.ext hE4⟩)
        clear e0 e1 e2 e3 e4 q0 q1 q2 q3 HF hEF hEA hE3
        cases ff
        case true =>
          go_wp2_with fail
          apply wp_region_par' 11 (by kernel_rfl) (by kernel_rfl) rfl
          simp only [List.take_succ_cons, List.take_zero, List.drop_succ_cons, List.drop_zero]
          generalize hW : World.drew _ = W
          have hEW : Ext w3 W := Ext.of_drew (Ext.refl _) hW
          replace xb := xb.ext hEW
          clear hW
          have zb := xb.lcell
          have z0 := fun z : Later W => z.cell (hEW.cell f0)
          have z1 := fun z : Later W => z.cell (hEW.cell f1)
          have z2 := fun z : Later W => z.cell (hEW.cell f2)
          have z3 := fun z : Later W => z.cell (hEW.cell f3)
          clear f0 f1 f2 f3
          iterate 10
            refine parW_step rfl (fun K hK => ?_)
            apply Exists.intro
            refine ⟨fun z => ?_, ?_⟩
            focus
              go_simp
              first
                | rfl
                | fail
            go_simp
            refine hK _ ?_
            clear hK K
          refine parW_newRow (t := 106) (n := 1) (cs := #[.bool x.1.b, .slice x.1.A x.1.n x.1.c, .bool x.1.b', .slice x.1.A' x.1.n' x.1.c', .bool x'.1.b, .slice x'.1.A x'.1.n x'.1.c, .bool x'.1.b', .slice x'.1.A' x'.1.n' x'.1.c']) rfl rfl rfl (by simp) (fun w1 => by kernel_rfl) ?_
          refine parW_fin (fun z => ?_)
          rintro va ⟨g, rfl, hgz, hbx⟩ hp
          simp only [Act.put, List.setIfInBounds_toArray, List.set_cons_succ, List.set_cons_zero]
          have hEz := hEW.later z
          replace xb := xb.ext z.prop
          replace hown := hown.ext hEz
          have HO2 := Lib.hid (HO.out.ext hEz)
          have HX4 := Lib.hid (show (x.1.At z.val ∧ x'.1.At z.val) from ⟨HX3.out.1.ext hEz, HX3.out.2.ext hEz⟩)
          replace hE4 := hE4.trans hEz
          clear zb z0 z1 z2 z3 hp hEz
          generalize z.val = Z at *
          clear z hEW hgz
          have hlen : I.length + [(x.1, x'.1)].length ≤ 1000000000 := by simp; omega
          have hsz := hE4.size
          have hrow : spE.Row Z (.slice (some ⟨g, 0, none⟩) 1 1) [(x.1, x'.1)] := sp_one (x.1, x'.1) hbx
          go_wp2_with (at_builtin; refine OwnC.wpApp spE spE_clean rfl _ _ rfl w1.heap.size _ _ I [(x.1, x'.1)] rfl rfl hown hrow hlen (by omega) ?_; intro v' w4 hown4 hg hd)
          go_roundw
          case rel =>
            refine ⟨j', s2, I ++ [(x.1, x'.1)], by omega, (by first | rfl | go_num), (by first | rfl | go_num), growExtC hE4 hown (Nat.le_refl _) hg, hown4, Lib.hid ⟨?_, (HO2.out.dk hd).snoc (HX4.out.1.dk hd) (HX4.out.2.dk hd) HX.out.2 HX'.out.2, ?_, ?_⟩⟩
            · rw [HJ'.out]; exact HU2.out
            · rw [HJ'.out, HSP.out, List.map_append, HI.out.2.2.1]
              congr 1
              simp only [← HU2.out, HFF.out, if_true]
              rfl
            · rw [List.length_append, HJ'.out, List.length_singleton]; omega
          case measure => have := HJ'.out; simp [intOf]; omega
        case false =>
          go_wp2_with fail
          go_roundw
          case rel =>
            refine ⟨j', s2, I, by omega, (by first | rfl | go_num), (by first | rfl | go_num), hE4, hown, Lib.hid ⟨?_, HO.out, ?_, ?_⟩⟩
            · rw [HJ'.out]; exact HU2.out
            · rw [HJ'.out, HSP.out, HI.out.2.2.1, ← HU2.out, HFF.out]
              simp
            · rw [HJ'.out]; omega
          case measure => have := HJ'.out; simp [intOf]; omega
      · have hjm : j' = m := by omega
        have d1 : ((j' : Int) < (m : Int)) = False := eq_false (by omega)
        have hall : (M.map mkOf).take (j' + 1) = (M.map mkOf).take j' := by
          rw [List.take_of_length_le (by rw [List.length_map, HMM.out]; omega), List.take_of_length_le (by rw [List.length_map, HMM.out]; omega)]
        have HALL := Lib.hid hall
        have HJ' := Lib.hid hj'
        have HJM := Lib.hid hjm
        clear x0 x1 x2 x3 x4 hc hxm hs2 hs2u hj' hx hall hjm
        go_wp2_with fail
        go_roundw
        case rel =>
          refine ⟨j', s2, I, by have := HJM.out; omega, (by first | rfl | go_num), (by first | rfl | go_num), hE1.trans hEA, hown.ext hEA, Lib.hid ⟨?_, HI.out.2.1.ext hEA, ?_, ?_⟩⟩
          · rw [HJ'.out]; exact HU2.out
          · rw [HALL.out, HJ'.out]; exact HI.out.2.2.1
          · rw [HJ'.out]; omega
        case measure => have := HJ'.out; simp [intOf]; omega
    · have hjm : j = m := by omega
      subst hjm
      have hall : (M.map mkOf).take (j + 1) = M.map mkOf := List.take_of_length_le (by rw [List.length_map, HMM.out]; omega)
      have HSP := Lib.hid (show I.map spOf = spansOf (fun n => fillsS n rule) 0 (M.map mkOf) from by have := HI.out.2.2.1; rwa [hall] at this)
      obtain ⟨ti, hti⟩ : ∃ t, I.length = t := ⟨_, rfl⟩
      have hti19 : ti ≤ 19 := by have := HI.out.2.2.2; omega
      obtain ⟨Ai, ci, rfl, hci, hati⟩ := hown.own.at hti (by omega)
      have HMG := Lib.hid (Merge_any (c := ci) hti hti19 hati HI.out.2.1 (by omega) (by rw [HSP.out]; exact Go.TA.spansOf_chain HMO.out.2))
      have HLI := Lib.hid hti
      clear hall hti hati HI hown hlt
      go_wp2_with fail
      refine HMG.out.mono ?_
      rintro e w3 ⟨v, N, rfl, hE3, hown3, hok3, hmap, hlen⟩
      have HF := Lib.hid (show N.map spOf = mergeL ((spansOf (fun n => fillsS n rule) 0 (M.map mkOf)).filter nonempty) from by rw [hmap, HSP.out])
      have HO3 := Lib.hid hok3
      have HL3 := Lib.hid (show N.length ≤ 19 from by have := HLI.out; omega)
      have hE4 := hE.trans hE1
      have hown4 := hown3.lower hE4.size
      have hE5 := hE4.trans hE3
      clear hmap hlen hok3 HMG hE3 hE4 hown3 hE1 hE
      go_wp2_with fail
      go_ret
      exact ⟨_, N, rfl, hE5, hown4, HO3.out, ⟨_, HMO.out, HF.out⟩, HL3.out⟩
end Go.Proofs.YtodefmfgoehkhaaGreat

/- scanline.Length: how much of a range spans fill. -/
set_option linter.unusedVariables false
set_option linter.unusedSimpArgs false
namespace Go.Proofs.YtodefmfgoehkhaaGreat
open Go.RowKit Go.Par Go.Shelf Go.TN Go.Lib
open Go.TA (E2 Mk leM Sp Chain Apart mergeL mergeStep nonempty cut1 clampR)

/-- a rational written into its box -/
theorem put_rat {X : World} {g : Nat} {s s' : Bool} {D D' : Option Addr} {m d m' d' : Nat} (h : Box X g 29 #[.bool s, .slice D m d, .bool s', .slice D' m' d']) (p : RQ) :
    ∃ Y, (((X.setCell ⟨g, 0, none⟩ (.bool p.b)).setCell ⟨g, 1, none⟩ (.slice p.A p.n p.c)).setCell ⟨g, 2, none⟩ (.bool p.b')).setCell ⟨g, 3, none⟩ (.slice p.A' p.n' p.c') = Y ∧
      But g X Y ∧ DigKeep X Y ∧ Box Y g 29 #[.bool p.b, .slice p.A p.n p.c, .bool p.b', .slice p.A' p.n' p.c'] := by
  have k := ((((But.refl g X).set 0 (.bool p.b)).set 1 (.slice p.A p.n p.c)).set 2 (.bool p.b')).set 3 (.slice p.A' p.n' p.c')
  exact ⟨_, rfl, k, DigKeep.but k (NoDig.rat h), (((h.set 0 (.bool p.b)).set 1 (.slice p.A p.n p.c)).set 2 (.bool p.b')).set 3 (.slice p.A' p.n' p.c')⟩
theorem cmpQ_one {p q : Rat} : cmpQ p q = 1 ↔ q < p := by
  have h1 := cmpQ_pos (a := p) (b := q)
  have h2 := cmpQ_bd p q
  rw [← h1]
  omega
theorem cmpQ_mone {p q : Rat} : cmpQ p q = -1 ↔ p < q := by
  have h1 := cmpQ_neg (a := p) (b := q)
  have h2 := cmpQ_bd p q
  rw [← h1]
  omega
set_option maxHeartbeats 400000 in
theorem inner_any {w : World} {k : Nat} {p q r : RQ} (hp : p.At w) (hq : q.At w) (s1 : Sz k p.q) (s2 : Sz k q.q) (hk : k ≤ 1000000) (want : Int) (hr : r = if cmpQ p.q q.q = want then p else q) :
    Calls Tryz.prog 66 #[.agg #[.bool p.b, .slice p.A p.n p.c, .bool p.b', .slice p.A' p.n' p.c'], .agg #[.bool q.b, .slice q.A q.n q.c, .bool q.b', .slice q.A' q.n' q.c'], .int .i64 want] w
      fun e w' => e = .returned (.agg #[.bool r.b, .slice r.A r.n r.c, .bool r.b', .slice r.A' r.n' r.c']) ∧ Ext w w' := by
  obtain ⟨O1, hO1⟩ : ∃ O, O = Obj.cells #[.bool p.b, .slice p.A p.n p.c, .bool p.b', .slice p.A' p.n' p.c'] 29 := ⟨_, rfl⟩
  obtain ⟨O2, hO2⟩ : ∃ O, O = Obj.cells #[.bool q.b, .slice q.A q.n q.c, .bool q.b', .slice q.A' q.n' q.c'] 29 := ⟨_, rfl⟩
  obtain ⟨O3, hO3⟩ : ∃ O, O = Obj.cells #[.bool false, .slice none 0 0, .bool false, .slice none 0 0] 29 := ⟨_, rfl⟩
  have hE := ((Ext.alloc w O1).trans (Ext.alloc _ O2)).trans (Ext.alloc _ O3)
  have x0 := ((Box.new w 29 #[.bool p.b, .slice p.A p.n p.c, .bool p.b', .slice p.A' p.n' p.c']).alloc O2).alloc O3
  have x1 := (Box.at1 (w := w) (o := O1) (t := 29) (cs := #[.bool q.b, .slice q.A q.n q.c, .bool q.b', .slice q.A' q.n' q.c'])).alloc O3
  have x2 := Box.at2 (w := w) (o := O1) (o' := O2) (t := 29) (cs := #[.bool false, .slice none 0 0, .bool false, .slice none 0 0])
  rw [← hO1] at x0
  rw [← hO2] at x1
  rw [← hO3] at x2
  rw [hO1, hO2, hO3] at hE x0 x1 x2
  have HC := Lib.hid (fun W (hW : Ext w W) => cmpR (hp.ext hW).rv (hq.ext hW).rv s1 s2 (by omega))
  generalize cmpQ p.q q.q = c at *
  unfold RQ.v at HC
  clear hp hq s1 s2 hk hO1 hO2 hO3
  go_enter Tryz.func66, Tryz.ntmps66
  go_wp2_with fail
  refine (HC.out _ hE).mono ?_
  rintro e w1 ⟨rfl, hE1⟩
  replace x0 := x0.ext hE1
  replace x1 := x1.ext hE1
  replace x2 := x2.ext hE1
  replace hE := hE.trans hE1
  have c0 := x0.cell
  have c1 := x1.cell
  have c2 := x2.cell
  have f2 := x2.frozen
  clear hE1 HC
  by_cases hc : c = want
  · have d1 : (c == want) = true := by simp [hc]
    have hr2 : r = p := by rw [hr, if_pos hc]
    subst hr2
    obtain ⟨Y, hY, hbut, _, hbx⟩ := put_rat x2 r
    have hEf : Ext w Y := hE.but hbut (by omega)
    have HY := Lib.hid hY
    clear hY hbut hr x0 x1 x2 hE
    have c3 := hbx.cell
    rw [← HY.out] at c3
    go_wp2
    rw [HY.out] at c3 ⊢
    exact bodyPost_ret (v := .agg #[.bool r.b, .slice r.A r.n r.c, .bool r.b', .slice r.A' r.n' r.c']) (by simp [results, Tryz.results66, go_sem, c3]) rfl ⟨rfl, hEf⟩
  · have d1 : (c == want) = false := by simp [hc]
    have hr2 : r = q := by rw [hr, if_neg hc]
    subst hr2
    obtain ⟨Y, hY, hbut, _, hbx⟩ := put_rat x2 r
    have hEf : Ext w Y := hE.but hbut (by omega)
    have HY := Lib.hid hY
    clear hY hbut hr x0 x1 x2 hE
    have c3 := hbx.cell
    rw [← HY.out] at c3
    go_wp2
    rw [HY.out] at c3 ⊢
    exact bodyPost_ret (v := .agg #[.bool r.b, .slice r.A r.n r.c, .bool r.b', .slice r.A' r.n' r.c']) (by simp [results, Tryz.results66, go_sem, c3]) rfl ⟨rfl, hEf⟩
theorem Sz.clamp {lo hi x : Rat} {k : Nat} (h1 : Sz k lo) (h2 : Sz k hi) (h3 : Sz k x) : Sz k (clampR lo hi x) := by
  unfold clampR
  split
  · exact h1
  · split
    · exact h2
    · exact h3
theorem Sz.cut1 {lo hi : Rat} {s : Sp} {k : Nat} (h1 : Sz k lo) (h2 : Sz k hi) (h3 : Sz k s.1) (h4 : Sz k s.2) : Sz (2 * k + 1) (cut1 lo hi s) := by
  have := (Sz.clamp h1 h2 h4).sub (Sz.clamp h1 h2 h3)
  exact this.mono (by omega)
theorem Sz.lenS {lo hi : Rat} {k : Nat} (h1 : Sz k lo) (h2 : Sz k hi) : ∀ {l : List Sp}, (∀ s ∈ l, Sz k s.1 ∧ Sz k s.2) → Sz (2 + l.length * (2 * k + 2)) (Go.TA.lenS lo hi l)
  | [], _ => by
    show Sz _ ((0 : Int) : Rat)
    exact (Sz.coord (z := 0) (by omega) (by omega)).mono (by omega)
  | s :: l, h => by
    have ih := Sz.lenS h1 h2 (l := l) fun t ht => h t (List.mem_cons_of_mem _ ht)
    have hs := h s List.mem_cons_self
    rw [Go.TA.lenS_cons, List.length_cons]
    refine ((Sz.cut1 h1 h2 hs.1 hs.2).add ih).mono ?_
    rw [Nat.add_mul]
    omega
theorem Sz.lenS19 {lo hi : Rat} {k : Nat} (h1 : Sz k lo) (h2 : Sz k hi) {l : List Sp} (h : ∀ s ∈ l, Sz k s.1 ∧ Sz k s.2) (hl : l.length ≤ 19) : Sz (40 + 38 * k) (Go.TA.lenS lo hi l) := by
  refine (Sz.lenS h1 h2 h).mono ?_
  have := Nat.mul_le_mul_right (2 * k + 2) hl
  omega
theorem low_high {lo hi a b : RQ} {x : SpR} (hle : lo.q ≤ hi.q) (hx : x.1.q < x.2.q) (ha : a = if cmpQ x.1.q lo.q = 1 then x.1 else lo) (hb : b = if cmpQ x.2.q hi.q = -1 then x.2 else hi) :
    (if a.q < b.q then b.q - a.q else 0) = cut1 lo.q hi.q (spOf x) := by
  refine Go.TA.cut1_eq hle (s := spOf x) (by show x.1.q ≤ x.2.q; grind) a.q b.q ?_ ?_
  · rw [ha]
    by_cases h : lo.q < x.1.q
    · rw [if_pos (cmpQ_one.2 h), if_pos (show (spOf x).1 > lo.q from h)]; rfl
    · rw [if_neg (fun k => h (cmpQ_one.1 k)), if_neg (show ¬ (spOf x).1 > lo.q from h)]
  · rw [hb]
    by_cases h : x.2.q < hi.q
    · rw [if_pos (cmpQ_mone.2 h), if_pos (show (spOf x).2 < hi.q from h)]; rfl
    · rw [if_neg (fun k => h (cmpQ_mone.1 k)), if_neg (show ¬ (spOf x).2 < hi.q from h)]
set_option maxRecDepth 100000 in
set_option maxHeartbeats 1600000 in
theorem Length_any {w : World} {k n c : Nat} {A : Option Addr} {l : List SpR} {lo hi : RQ} (hn : l.length = n) (hn19 : n ≤ 19) (hat : spE.At w A l) (hok : SpOk w k l) (hk : k ≤ 100000) (hk2 : 2 ≤ k) (hap : Apart (l.map spOf)) (hlo : lo.At w) (hhi : hi.At w) (s1 : Sz 2 lo.q) (s2 : Sz 2 hi.q) (hle : lo.q ≤ hi.q) :
    Calls Tryz.prog 40 #[.slice A n c, .agg #[.bool lo.b, .slice lo.A lo.n lo.c, .bool lo.b', .slice lo.A' lo.n' lo.c'], .agg #[.bool hi.b, .slice hi.A hi.n hi.c, .bool hi.b', .slice hi.A' hi.n' hi.c']] w
      fun e w' => ∃ v, e = .returned v ∧ Ext w w' ∧ RV w' v (Go.TA.lenS lo.q hi.q (l.map spOf)) := by
  obtain ⟨O1, hO1⟩ : ∃ O, O = Obj.cells #[.bool lo.b, .slice lo.A lo.n lo.c, .bool lo.b', .slice lo.A' lo.n' lo.c'] 29 := ⟨_, rfl⟩
  obtain ⟨O2, hO2⟩ : ∃ O, O = Obj.cells #[.bool hi.b, .slice hi.A hi.n hi.c, .bool hi.b', .slice hi.A' hi.n' hi.c'] 29 := ⟨_, rfl⟩
  obtain ⟨O3, hO3⟩ : ∃ O, O = Obj.cells #[.bool false, .slice none 0 0, .bool false, .slice none 0 0] 29 := ⟨_, rfl⟩
  have hE := ((Ext.alloc w O1).trans (Ext.alloc _ O2)).trans (Ext.alloc _ O3)
  have x4 := ((Box.new w 29 #[.bool lo.b, .slice lo.A lo.n lo.c, .bool lo.b', .slice lo.A' lo.n' lo.c']).alloc O2).alloc O3
  have x5 := (Box.at1 (w := w) (o := O1) (t := 29) (cs := #[.bool hi.b, .slice hi.A hi.n hi.c, .bool hi.b', .slice hi.A' hi.n' hi.c'])).alloc O3
  have x6 := Box.at2 (w := w) (o := O1) (o' := O2) (t := 29) (cs := #[.bool false, .slice none 0 0, .bool false, .slice none 0 0])
  rw [← hO1] at x4
  rw [← hO2] at x5
  rw [← hO3] at x6
  rw [hO1, hO2, hO3] at hE x4 x5 x6
  have HMG := Lib.hid (fun W (hW : Ext w W) => Merge_any (c := c) hn hn19 (hat.ext hW) (hok.ext hW) (by omega) (by rw [Go.TA.apart_filter hap]; exact hap.chain))
  have HAP := Lib.hid hap
  have HLE := Lib.hid hle
  have HN := Lib.hid hn
  have HL := Lib.hid hlo
  have HH := Lib.hid hhi
  have HS1 := Lib.hid s1
  have HS2 := Lib.hid s2
  have HSZ : Hid (∀ s ∈ l.map spOf, Sz k s.1 ∧ Sz k s.2) := Lib.hid (fun s hs => by
    obtain ⟨x, hx, rfl⟩ := List.mem_map.1 hs
    exact (hok x hx).2)
  clear hn hat hok hap hlo hhi s1 s2 hle hO1 hO2 hO3
  go_enter Tryz.func40, Tryz.ntmps40
  go_wp2_with fail
  refine (fromIntV 0 _ (by omega) (by omega)).mono ?_
  rintro e w1 ⟨v, rfl, hE1, hv⟩
  obtain ⟨z0, rfl, hz0, hza⟩ := hv.rq
  have hEA := Ext.alloc w1 (.cells #[.bool z0.b, .slice z0.A z0.n z0.c, .bool z0.b', .slice z0.A' z0.n' z0.c'] 29)
  have x7 := Box.new w1 29 #[.bool z0.b, .slice z0.A z0.n z0.c, .bool z0.b', .slice z0.A' z0.n' z0.c']
  have h17 := hE1.size
  have h6 := x6.lt
  replace x4 := (x4.ext hE1).ext hEA
  replace x5 := (x5.ext hE1).ext hEA
  replace x6 := (x6.ext hE1).ext hEA
  replace hE := (hE.trans hE1).trans hEA
  replace hza := hza.ext hEA
  have n7 : w.heap.size + 1 + 1 < w1.heap.size := by omega
  clear hE1 hEA hv h17 h6
  unfold RQ.v
  go_wp2_with fail
  refine (HMG.out _ hE).mono ?_
  rintro e w2 ⟨v, M, rfl, hE2, hown, hokM, hmap, hML⟩
  rw [Go.TA.apart_filter HAP.out, Go.TA.mergeL_apart HAP.out] at hmap
  replace x4 := x4.ext hE2
  replace x5 := x5.ext hE2
  replace x6 := x6.ext hE2
  replace x7 := x7.ext hE2
  replace hza := hza.ext hE2
  have hb7 : w1.heap.size < (w1.alloc (.cells #[.bool z0.b, .slice z0.A z0.n z0.c, .bool z0.b', .slice z0.A' z0.n' z0.c'] 29)).heap.size := by simp
  replace hE := hE.trans hE2
  generalize (w1.alloc (.cells #[.bool z0.b, .slice z0.A z0.n z0.c, .bool z0.b', .slice z0.A' z0.n' z0.c'] 29)).heap.size = B at *
  clear hE2 HMG
  obtain ⟨b4, hb4⟩ : ∃ b, b = w.heap.size := ⟨_, rfl⟩
  obtain ⟨b5, hb5⟩ : ∃ b, b = w.heap.size + 1 := ⟨_, rfl⟩
  obtain ⟨b6, hb6⟩ : ∃ b, b = w.heap.size + 1 + 1 := ⟨_, rfl⟩
  obtain ⟨b7, hb7e⟩ : ∃ b, b = w1.heap.size := ⟨_, rfl⟩
  rw [← hb6] at x6 n7 ⊢
  rw [← hb5] at x5 ⊢
  rw [← hb7e] at x7 hb7 n7 ⊢
  have hw7 : w.heap.size ≤ b7 := by omega
  have hw6 : w.heap.size ≤ b6 := by omega
  have n47 : b4 ≠ b7 := by omega
  have n57 : b5 ≠ b7 := by omega
  have n67 : b6 ≠ b7 := by omega
  rw [← hb4] at x4 ⊢
  clear hb4 hb5 hb6 hb7e n7
  obtain ⟨m, hm⟩ : ∃ m, M.length = m := ⟨_, rfl⟩
  have hm19 : m ≤ 19 := by have := HN.out; omega
  obtain ⟨Am, cm, rfl, hcm, hatM⟩ := hown.own.at hm (by omega)
  have HOK := Lib.hid hokM
  have HMP := Lib.hid hmap
  have HM := Lib.hid hm
  clear hm hmap hokM hML hatM
  go_wp2_with fail
  go_loopw [10, 11, 12, 17] (fun _ _ _ i wr => ∃ (j : Nat) (sq : RQ), j ≤ m ∧ i = .int .i64 j ∧ But b7 w2 wr ∧ DigKeep w2 wr ∧ Box wr b7 29 #[.bool sq.b, .slice sq.A sq.n sq.c, .bool sq.b', .slice sq.A' sq.n' sq.c'] ∧ Hid (sq.At wr ∧ sq.q = Go.TA.lenS lo.q hi.q ((M.map spOf).take j))) (fun _ _ _ i _ => m - (intOf i).toNat)
  case atStart => exact ⟨0, z0, by omega, rfl, But.refl _ _, DigKeep.refl _, x7, Lib.hid ⟨hza, hz0⟩⟩
  case round =>
    obtain ⟨j, sq, hj, rfl, hbut, hdig, y7, HQ⟩ := hrel
    by_cases hlt : j < m
    · obtain ⟨x, hx⟩ : ∃ x, M[j]? = some x := ⟨_, List.getElem?_eq_getElem (by rw [HM.out]; exact hlt)⟩
      have hbr := hown.but hbut (fun e => by have := (hown.lt e).1; omega)
      obtain ⟨g, cap, e, _, _⟩ := hbr.own.head (by rw [HM.out]; omega)
      simp only [Value.slice.injEq] at e
      obtain ⟨rfl, hme, rfl⟩ := e
      clear hme
      obtain ⟨x0, x1, x2, x3, x4', x5', x6', x7'⟩ := own_sp hbr hx
      have hxm := List.mem_of_getElem? hx
      obtain ⟨⟨a1, a2⟩, s1, s2⟩ := HOK.out x hxm
      have hxlt : x.1.q < x.2.q := by
        have h1 : spOf x ∈ M.map spOf := List.mem_map.2 ⟨x, hxm, rfl⟩
        rw [HMP.out] at h1
        exact HAP.out.2 _ h1
      obtain ⟨a, ha⟩ : ∃ a : RQ, a = if cmpQ x.1.q lo.q = 1 then x.1 else lo := ⟨_, rfl⟩
      obtain ⟨b, hb⟩ : ∃ b : RQ, b = if cmpQ x.2.q hi.q = -1 then x.2 else hi := ⟨_, rfl⟩
      have lo1 := (HL.out.ext hE).dk hdig
      have hi1 := (HH.out.ext hE).dk hdig
      have t1 := HS1.out.mono hk2
      have t2 := HS2.out.mono hk2
      have HI1 := Lib.hid (fun W (hW : Ext wr W) => inner_any ((a1.dk hdig).ext hW) (lo1.ext hW) s1 t1 (by omega) 1 ha)
      have HI2 := Lib.hid (fun W (hW : Ext wr W) => inner_any ((a2.dk hdig).ext hW) (hi1.ext hW) s2 t2 (by omega) (-1) hb)
      have HCUT := Lib.hid (low_high HLE.out hxlt ha hb)
      have haa : a.At wr ∧ Sz k a.q := by
        rw [ha]; split
        · exact ⟨a1.dk hdig, s1⟩
        · exact ⟨lo1, t1⟩
      have hba : b.At wr ∧ Sz k b.q := by
        rw [hb]; split
        · exact ⟨a2.dk hdig, s2⟩
        · exact ⟨hi1, t2⟩
      have HA := Lib.hid haa
      have HB := Lib.hid hba
      have hxs : (M.map spOf)[j]? = some (spOf x) := by rw [List.getElem?_map, hx]; rfl
      have HST := Lib.hid (Go.TA.lenS_step (lo := lo.q) (hi := hi.q) hxs)
      have HQS := Lib.hid (show Sz (40 + 38 * k) sq.q from by
        rw [HQ.out.2]
        refine Sz.lenS19 t1 t2 (fun t ht => ?_) (by rw [List.length_take, List.length_map, HM.out]; omega)
        exact HSZ.out t (by rw [← HMP.out]; exact List.mem_of_mem_take ht))
      have y4 := hbut.box x4 n47
      have y5 := hbut.box x5 n57
      have hEA := Ext.alloc wr (.cells #[.bool x.1.b, .slice x.1.A x.1.n x.1.c, .bool x.1.b', .slice x.1.A' x.1.n' x.1.c', .bool x.2.b, .slice x.2.A x.2.n x.2.c, .bool x.2.b', .slice x.2.A' x.2.n' x.2.c'] 106)
      have x10 := Box.new wr 106 #[.bool x.1.b, .slice x.1.A x.1.n x.1.c, .bool x.1.b', .slice x.1.A' x.1.n' x.1.c', .bool x.2.b, .slice x.2.A x.2.n x.2.c, .bool x.2.b', .slice x.2.A' x.2.n' x.2.c']
      clear ha hb haa hba hxs hxlt a1 a2 s1 s2 t1 t2 lo1 hi1 hxm hx hbr
      go_wp2_with fail
      apply wp_region_par' 12 (by kernel_rfl) (by kernel_rfl) rfl
      simp only [List.take_succ_cons, List.take_zero, List.drop_succ_cons, List.drop_zero]
      generalize hW : World.drew _ = W
      have hEW := Ext.of_drew hEA hW
      replace x10 := Box.of_drew x10 hW
      clear hW hEA
      have z10 := x10.lcell
      have z4 := (y4.ext hEW).lcell
      have z5 := (y5.ext hEW).lcell
      have HC1 := Lib.hid (fun z : Later W => HI1.out z.val (hEW.later z))
      have HC2 := Lib.hid (fun z : Later W => HI2.out z.val (hEW.later z))
      clear HI1 HI2
      iterate 10
        refine parW_step rfl (fun K hK => ?_)
        apply Exists.intro
        refine ⟨fun z => ?_, ?_⟩
        focus
          go_simp
          first
            | rfl
            | with_reducible exact calls_val (HC1.out _)
            | with_reducible exact calls_val (HC2.out _)
        go_simp
        refine hK _ ?_
        clear hK K
      refine parW_new (t := 29) (cs := #[.bool false, .slice none 0 0, .bool false, .slice none 0 0]) rfl rfl rfl (by simp) (fun w1 => by kernel_rfl) ?_
      refine parW_new (t := 29) (cs := #[.bool false, .slice none 0 0, .bool false, .slice none 0 0]) rfl rfl rfl (by simp) (fun w1 => by kernel_rfl) ?_
      refine parW_fin (fun z => ?_)
      rintro va ⟨g1, rfl, h1, v1⟩ vb ⟨g2, rfl, h2, v2⟩ hp
      have n12 : g1 ≠ g2 := by simpa [blockOf] using hp
      simp only [Act.put, List.setIfInBounds_toArray, List.set_cons_succ, List.set_cons_zero]
      have hEz := hEW.later z
      have hs0 := hEW.size
      obtain ⟨p1, P1, p2, p3, p1', P1', p2', p3', r1, R1, r2, r3, r1', R1', r2', r3', Z', e1, e2, hZ, hE', q4, q5, j1, j2, hbx⟩ := two_putR (w := wr) n12 v1 v2 hEz (by omega) (by omega) (HA.out.1.ext hEz).rv (HB.out.1.ext hEz).rv
      unfold RQ.v at e1 e2
      simp only [Value.agg.injEq, Array.mk.injEq, List.cons.injEq, Value.bool.injEq, Value.slice.injEq, and_true] at e1 e2
      obtain ⟨rfl, ⟨rfl, rfl, rfl⟩, rfl, rfl, rfl, rfl⟩ := e1
      obtain ⟨rfl, ⟨rfl, rfl, rfl⟩, rfl, rfl, rfl, rfl⟩ := e2
      have HZ := Lib.hid hZ
      have f1 := v1.frozen
      have f2 := v2.frozen
      have c1 := v1.cell
      have c2 := v2.cell
      have k1 := q4.cell
      have k2 := q5.cell
      rw [← hZ] at k1 k2
      clear hbx hZ hp z4 z5 z10 HC1 HC2 v1 v2 x10 j1 j2 h1 h2 hs0
      generalize z.val = Z at *
      clear z hEW hEz
      go_wp2_with fail
      rw [HZ.out] at k1 k2 ⊢
      clear HZ f1 f2 c1 c2
      have AA := HA.out.1.ext hE'
      have AB := HB.out.1.ext hE'
      have HCM := Lib.hid (cmpR AA.rv AB.rv HA.out.2 HB.out.2 (by omega))
      have hneg : cmpQ a.q b.q < 0 ↔ a.q < b.q := cmpQ_neg
      generalize cmpQ a.q b.q = r at *
      have HNEG := Lib.hid hneg
      unfold RQ.v at HCM
      have y7' := y7.ext hE'
      have hbut1 := hbut.trans (But.of_ext hE')
      have hdig1 := hdig.trans (DigKeep.ext hE')
      have ASQ := HQ.out.1.ext hE'
      clear hneg hbut hdig y7 AA AB y4 y5
      go_wp2_with fail
      refine HCM.out.mono ?_
      rintro e w3 ⟨rfl, hE3⟩
      have AA := HA.out.1.ext (hE'.trans hE3)
      have AB := HB.out.1.ext (hE'.trans hE3)
      replace ASQ := ASQ.ext hE3
      replace y7' := y7'.ext hE3
      replace q4 := q4.ext hE3
      replace q5 := q5.ext hE3
      replace hbut1 := hbut1.trans (But.of_ext hE3)
      replace hdig1 := hdig1.trans (DigKeep.ext hE3)
      clear k1 k2 hE' hE3 HCM
      by_cases hr : r < 0
      · have hab := HNEG.out.1 hr
        have HVAL := Lib.hid (show sq.q + (b.q - a.q) = Go.TA.lenS lo.q hi.q ((M.map spOf).take (j + 1)) from by
          have h1 := HCUT.out
          rw [if_pos hab] at h1
          rw [HST.out, ← HQ.out.2, ← h1])
        have d1 : (r < 0) = True := eq_true hr
        have HSUB := Lib.hid (fun W (hW : Ext w3 W) => subR (AB.ext hW).rv (AA.ext hW).rv HB.out.2 HA.out.2 (by omega))
        have HADD := Lib.hid (fun W (hW : Ext w3 W) v (hv : RV W v (b.q - a.q)) => addR (ASQ.ext hW).rv hv HQS.out (HB.out.2.sub HA.out.2) (by omega))
        generalize b.q - a.q = dq at *
        unfold RQ.v at HSUB HADD
        clear hab AA AB HNEG HCUT
        go_wp2_with fail
        apply wp_region_par' 5 (by kernel_rfl) (by kernel_rfl) rfl
        simp only [List.take_succ_cons, List.take_zero, List.drop_succ_cons, List.drop_zero]
        generalize hW : World.drew _ = W
        have hEW := Ext.of_drew (Ext.refl _) hW
        clear hW
        have z7 := (y7'.ext hEW).lcell
        have z1 := (q4.ext hEW).lcell
        have z2 := (q5.ext hEW).lcell
        have HC1 := Lib.hid (fun z : Later W => HSUB.out z.val (hEW.later z))
        have HC2 := Lib.hid (fun z : Later W => HADD.out z.val (hEW.later z))
        clear HSUB HADD
        iterate 3
          refine parW_step rfl (fun K hK => ?_)
          apply Exists.intro
          refine ⟨fun z => ?_, ?_⟩
          focus
            go_simp
            first
              | rfl
              | fail
          go_simp
          refine hK _ ?_
          clear hK K
        refine parW_rel rfl (RV.stable dq) (fun z => ?_) ?_
        · have hc := HC1.out z
          simp only [Giv]
          go_simp
          exact calls_rel hc
        refine parW_rel rfl (RV.stable (sq.q + dq)) (fun z => ?_) ?_
        · intro va hva
          have k1 := hva (show Nat.testBit _ _ = true from by kernel_rfl)
          have hc := HC2.out z _ k1
          simp only [Giv]
          go_simp
          exact calls_rel hc
        refine parW_fin (fun z => ?_)
        rintro va oa vb ob hp
        simp only [Act.put, List.setIfInBounds_toArray, List.set_cons_succ, List.set_cons_zero]
        obtain ⟨p, rfl, hpq, hpa⟩ := RV.rq ob
        have hEz := hEW.later z
        have y7z := y7'.ext hEz
        obtain ⟨Y, hY, hbY, hdY, hbx⟩ := put_rat y7z p
        have HY := Lib.hid hY
        have f7 := y7z.frozen
        have c7 := y7z.cell
        have hbut2 := (hbut1.trans (But.of_ext hEz)).trans hbY
        have hdig2 := (hdig1.trans (DigKeep.ext hEz)).trans hdY
        have HPQ := Lib.hid (show p.At Y ∧ p.q = Go.TA.lenS lo.q hi.q ((M.map spOf).take (j + 1)) from ⟨hpa.dk hdY, by rw [hpq]; exact HVAL.out⟩)
        unfold RQ.v
        clear hY hbY hdY oa ob hp hpa hpq z7 z1 z2 HC1 HC2 hEz y7z y7' q4 q5 hbut1 hdig1
        generalize z.val = Z2 at *
        clear z hEW
        go_wp2_with fail
        rw [HY.out]
        clear HY f7 c7
        go_roundw
        case rel => exact ⟨j + 1, p, by omega, by go_num, hbut2, hdig2, hbx, HPQ⟩
        case measure => simp [intOf]; omega
      · have hab : ¬ a.q < b.q := fun h => hr (HNEG.out.2 h)
        have HVAL := Lib.hid (show sq.q = Go.TA.lenS lo.q hi.q ((M.map spOf).take (j + 1)) from by
          have h1 := HCUT.out
          rw [if_neg hab] at h1
          rw [HST.out, ← HQ.out.2, ← h1]
          grind)
        have d1 : (r < 0) = False := eq_false hr
        clear hab HCUT HNEG
        go_wp2_with fail
        go_roundw
        case rel => exact ⟨j + 1, sq, by omega, by go_num, hbut1, hdig1, y7', Lib.hid ⟨ASQ, HVAL.out⟩⟩
        case measure => simp [intOf]; omega
    · have hjm : j = m := by omega
      subst hjm
      have hfin : (M.map spOf).take j = l.map spOf := by rw [← HMP.out]; exact List.take_of_length_le (by rw [List.length_map, HM.out]; omega)
      have hq := HQ.out
      rw [hfin] at hq
      obtain ⟨ha, hq⟩ := hq
      have y6 := hbut.box x6 n67
      have hEf := hE.but hbut hw7
      obtain ⟨Y, hY, hbY, hdY, hbx⟩ := put_rat y6 sq
      have hEY := hEf.but hbY hw6
      have HR := Lib.hid (show RV Y (.agg #[.bool sq.b, .slice sq.A sq.n sq.c, .bool sq.b', .slice sq.A' sq.n' sq.c']) (Go.TA.lenS lo.q hi.q (l.map spOf)) from by rw [← hq]; exact (ha.dk hdY).rv)
      have HY := Lib.hid hY
      have c6 := y6.cell
      have f6 := y6.frozen
      have c7 := y7.cell
      have k6 := hbx.cell
      rw [← hY] at k6
      clear hfin hlt hq ha hY hbY hdY hbx y6 y7 hbut hdig hEf hown x4 x5 x6 x7
      go_wp2
      rw [HY.out] at k6 ⊢
      exact bodyPost_ret (v := .agg #[.bool sq.b, .slice sq.A sq.n sq.c, .bool sq.b', .slice sq.A' sq.n' sq.c']) (by simp [results, Tryz.results40, go_sem, k6]) rfl ⟨_, rfl, hEY, HR.out⟩
end Go.Proofs.YtodefmfgoehkhaaGreat
