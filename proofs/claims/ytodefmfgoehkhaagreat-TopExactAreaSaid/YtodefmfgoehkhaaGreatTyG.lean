/- scanline.Merge: spans put in order and joined. -/
import Derived.Test.YtodefmfgoehkhaaGreatTyF
set_option linter.unusedVariables false
set_option linter.unusedSimpArgs false
namespace Go.Proofs.YtodefmfgoehkhaaGreat
open Go.RowKit Go.Par Go.Shelf Go.TN Go.Lib
open Go.TA (E2 Mk leM Sp Chain mergeL mergeStep nonempty)

def spOf (x : SpR) : Sp := (x.1.q, x.2.q)
/-- all spans of a row lie, none too long -/
def SpOk (w : World) (k : Nat) (l : List SpR) : Prop := ∀ x ∈ l, (x.1.At w ∧ x.2.At w) ∧ Sz k x.1.q ∧ Sz k x.2.q
theorem SpOk.dk {w w' : World} {k : Nat} {l : List SpR} (h : SpOk w k l) (he : DigKeep w w') : SpOk w' k l := fun x hx => ⟨⟨(h x hx).1.1.dk he, (h x hx).1.2.dk he⟩, (h x hx).2⟩
theorem SpOk.ext {w w' : World} {k : Nat} {l : List SpR} (h : SpOk w k l) (he : Ext w w') : SpOk w' k l := h.dk (DigKeep.ext he)
theorem SpOk.nil (w : World) (k : Nat) : SpOk w k [] := fun x hx => by cases hx
theorem SpOk.snoc {w : World} {k : Nat} {l : List SpR} {x : SpR} (h : SpOk w k l) (h1 : x.1.At w) (h2 : x.2.At w) (s1 : Sz k x.1.q) (s2 : Sz k x.2.q) : SpOk w k (l ++ [x]) := fun y hy => by
  rcases List.mem_append.1 hy with hy | hy
  · exact h y hy
  · rw [List.mem_singleton] at hy
    subst hy
    exact ⟨⟨h1, h2⟩, s1, s2⟩
theorem same_order {l l' : List SpR} (hp : l'.Perm l) (hs : SortedC (fun a b => cmpQ a.1.q b.1.q) l') (hl : l.Pairwise (fun a b => a.1.q < b.1.q)) : l' = l := by
  refine List.Perm.eq_of_pairwise (le := fun a b : SpR => a.1.q ≤ b.1.q) (fun a b ha hb h1 h2 => ?_) (hs.imp fun {a b} k => ?_) (hl.imp fun {a b} k => by grind) hp
  · have ha' := hp.mem_iff.1 ha
    obtain ⟨i, hi, rfl⟩ := List.mem_iff_getElem.1 ha'
    obtain ⟨j, hj, rfl⟩ := List.mem_iff_getElem.1 hb
    have hpw := List.pairwise_iff_getElem.1 hl
    rcases Nat.lt_trichotomy i j with k | k | k
    · have := hpw i j hi hj k; grind
    · subst k; rfl
    · have := hpw j i hj hi k; grind
  · rw [cmpQ_neg] at k
    grind
/-- the second half of a span written -/
theorem OwnC.putTo {w : World} {B g n cap : Nat} {l : List SpR} (h : OwnC spE w B (.slice (some ⟨g, 0, none⟩) n cap) l) {k : Nat} {c : SpR} (hk : l[k]? = some c) (q : RQ) :
    OwnC spE (w.setCells g (k * 8 + 4) (ratE.enc q)) B (.slice (some ⟨g, 0, none⟩) n cap) (l.set k (c.1, q)) := by
  obtain ⟨cur, hl, hb, hg, hcap, hm, hs, hc⟩ := h.own.opened
  have hkl := (List.getElem?_eq_some_iff.1 hk).1
  have hs8 : cur.size = cap * 8 := hs
  refine ⟨EL.Own.mk (by rw [List.length_set]; exact hl) hb (box_setCells _ _ _ _ hg) hcap hm (by rw [putL_size]; exact hs) fun j v hv => ?_, fun g' hg' => ?_⟩
  · obtain ⟨i, j', y, hy, hv', rfl, hj'⟩ := spE.cells_at' hv
    have hil := (List.getElem?_eq_some_iff.1 hy).1
    rw [List.length_set] at hil
    rw [putL_get]
    rw [List.getElem?_set] at hy
    rw [show spE.size = 8 from rfl] at hj' ⊢
    rw [show (ratE.enc q).length = 4 from rfl]
    by_cases hki : k = i
    · subst hki
      rw [if_pos rfl, if_pos hkl] at hy
      injection hy with hy
      subst hy
      by_cases h4 : j' < 4
      · rw [if_neg (by omega)]
        refine hc _ _ (spE.cells_at hk ?_)
        rcases (show j' = 0 ∨ j' = 1 ∨ j' = 2 ∨ j' = 3 by omega) with rfl | rfl | rfl | rfl <;> exact hv'
      · rw [if_pos (by omega)]
        obtain ⟨j2, rfl⟩ : ∃ j2, j' = j2 + 4 := ⟨j' - 4, by omega⟩
        rw [show k * 8 + (j2 + 4) - (k * 8 + 4) = j2 by omega]
        exact hv'
    · rw [if_neg hki] at hy
      rw [if_neg (by omega)]
      exact hc _ _ (spE.cells_at hy hv')
  · simp only [Value.ownBlock, Option.some.injEq] at hg'
    subst hg'
    exact NoDig.setCells _ _ hg (h.nod g rfl) (ratE_clean.enc q)
/-- a span built of two numbers -/
def SpV (q1 q2 : Rat) (v : Value) (w : World) : Prop := ∃ p q : RQ, p.q = q1 ∧ q.q = q2 ∧ p.At w ∧ q.At w ∧ v = .agg #[.bool p.b, .slice p.A p.n p.c, .bool p.b', .slice p.A' p.n' p.c', .bool q.b, .slice q.A q.n q.c, .bool q.b', .slice q.A' q.n' q.c']
theorem SpV.stable (q1 q2 : Rat) : Stable (SpV q1 q2) := fun _ _ _ ⟨p, q, h1, h2, h3, h4, h5⟩ he => ⟨p, q, h1, h2, h3.ext he, h4.ext he, h5⟩
/-- a row of one span -/
def SpRow1 (q1 q2 : Rat) (v : Value) (w : World) : Prop := ∃ p q : RQ, p.q = q1 ∧ q.q = q2 ∧ p.At w ∧ q.At w ∧ spE.Row w v [(p, q)]
theorem SpRow1.stable (q1 q2 : Rat) : Stable (SpRow1 q1 q2) := fun _ _ _ ⟨p, q, h1, h2, h3, h4, h5⟩ he => ⟨p, q, h1, h2, h3.ext he, h4.ext he, h5.ext he⟩
theorem SpRow1.made {q1 q2 : Rat} {p q : RQ} {w : World} (h1 : p.q = q1) (h2 : q.q = q2) (h3 : p.At w) (h4 : q.At w) :
    SpRow1 q1 q2 (.slice (some ⟨w.heap.size, 0, none⟩) 1 1) (w.alloc (.cells #[.bool p.b, .slice p.A p.n p.c, .bool p.b', .slice p.A' p.n' p.c', .bool q.b, .slice q.A q.n q.c, .bool q.b', .slice q.A' q.n' q.c'] 106)) :=
  ⟨p, q, h1, h2, h3.ext (Ext.alloc _ _), h4.ext (Ext.alloc _ _), sp_one (p, q) (Box.new _ _ _)⟩
/-- what Merge hands back -/
def MergePost (w : World) (k : Nat) (l : List SpR) (e : Ending) (w' : World) : Prop :=
  ∃ v M, e = .returned v ∧ Ext w w' ∧ OwnC spE w' w.heap.size v M ∧ SpOk w' k M ∧ M.map spOf = mergeL ((l.map spOf).filter nonempty) ∧ M.length ≤ l.length
theorem mergeL_step {l : List SpR} {j : Nat} {x : SpR} (h : l[j]? = some x) : mergeL ((l.take (j + 1)).map spOf) = mergeStep (mergeL ((l.take j).map spOf)) (spOf x) := by
  rw [List.take_add_one, h, List.map_append]
  exact Go.TA.mergeL_snoc _ _
theorem filter_step {l : List SpR} {j : Nat} {x : SpR} (h : l[j]? = some x) : ((l.take (j + 1)).map spOf).filter nonempty = ((l.take j).map spOf).filter nonempty ++ (if x.1.q < x.2.q then [spOf x] else []) := by
  rw [List.take_add_one, h, List.map_append, List.filter_append]
  congr 1
  by_cases hx : x.1.q < x.2.q
  · rw [if_pos hx]
    simp [nonempty, spOf, hx]
  · rw [if_neg hx]
    simp [nonempty, spOf, hx]
theorem spCmp_ok {X : World} {M : List SpR} {k : Nat} (hm : SpOk X k M) (hk : k ≤ 1000000) : CmpOk_sp X M := fun W x y hd hx hy =>
  spCmp_any ((hm x hx).1.1.dk hd) ((hm y hy).1.1.dk hd) (hm x hx).2.1 (hm y hy).2.1 hk
set_option maxRecDepth 100000 in
set_option maxHeartbeats 1600000 in
theorem Merge_any {w : World} {k n c : Nat} {A : Option Addr} {l : List SpR} (hn : l.length = n) (hn19 : n ≤ 19) (hat : spE.At w A l) (hok : SpOk w k l) (hk : k ≤ 1000000) (hch : Chain ((l.map spOf).filter nonempty)) :
    Calls Tryz.prog 67 #[.slice A n c] w (MergePost w k l) := by
  have HN := Lib.hid hn
  have HOK := Lib.hid hok
  have HCH := Lib.hid hch
  have HAT := Lib.hid hat
  clear hn hat hok hch
  go_enter Tryz.func67, Tryz.ntmps67
  go_wp2_with fail
  go_loopw [3, 5, 12] (fun v _ i wr => ∃ (j : Nat) (M : List SpR), j ≤ n ∧ i = .int .i64 j ∧ Ext w wr ∧ OwnC spE wr w.heap.size v M ∧ Hid (SpOk wr k M ∧ M.map spOf = ((l.take j).map spOf).filter nonempty ∧ M.length ≤ j)) (fun _ _ i _ => n - (intOf i).toNat)
  case atStart => exact ⟨0, [], by omega, rfl, Ext.refl _, OwnC.nil _ _, Lib.hid ⟨SpOk.nil _ _, by simp, by simp⟩⟩
  case round =>
    obtain ⟨j, M, hj, rfl, hE, hown, HM⟩ := hrel
    by_cases hlt : j < n
    · obtain ⟨x, hx⟩ : ∃ x, l[j]? = some x := ⟨_, List.getElem?_eq_getElem (by rw [HN.out]; exact hlt)⟩
      obtain ⟨b, o, rfl, hc⟩ := HAT.out (by rintro rfl; simp at hx)
      obtain ⟨⟨x0, x1, x2, x3⟩, x4, x5, x6, x7⟩ := at8 hc hx
      have e0 := hE.cell x0
      have e1 := hE.cell x1
      have e2 := hE.cell x2
      have e3 := hE.cell x3
      have e4 := hE.cell x4
      have e5 := hE.cell x5
      have e6 := hE.cell x6
      have e7 := hE.cell x7
      obtain ⟨⟨a1, a2⟩, s1, s2⟩ := HOK.out x (List.mem_of_getElem? hx)
      have HC := Lib.hid (fun W (hW : Ext w W) => cmpR (a1.ext hW).rv (a2.ext hW).rv s1 s2 (by omega))
      have HN1 := Lib.hid (fun W (hW : Ext w W) => normV' (a1.ext hW).rv s1 (by omega))
      have HN2 := Lib.hid (fun W (hW : Ext w W) => normV' (a2.ext hW).rv s2 (by omega))
      have HST := Lib.hid (filter_step hx)
      have HS1 := Lib.hid s1
      have HS2 := Lib.hid s2
      have hneg : cmpQ x.1.q x.2.q < 0 ↔ x.1.q < x.2.q := cmpQ_neg
      generalize cmpQ x.1.q x.2.q = r at *
      have HNEG := Lib.hid hneg
      unfold RQ.v at HC HN1 HN2
      have hlM := HM.out.2.2
      have hE2 := hE.trans (Ext.alloc wr (.cells #[.bool x.1.b, .slice x.1.A x.1.n x.1.c, .bool x.1.b', .slice x.1.A' x.1.n' x.1.c', .bool x.2.b, .slice x.2.A x.2.n x.2.c, .bool x.2.b', .slice x.2.A' x.2.n' x.2.c'] 106))
      clear x0 x1 x2 x3 x4 x5 x6 x7 hc hneg s1 s2 a1 a2 hx
      go_wp2_with fail
      refine (HC.out _ hE2).mono ?_
      rintro e w1 ⟨rfl, hE1⟩
      have xb := (Box.new wr 106 #[.bool x.1.b, .slice x.1.A x.1.n x.1.c, .bool x.1.b', .slice x.1.A' x.1.n' x.1.c', .bool x.2.b, .slice x.2.A x.2.n x.2.c, .bool x.2.b', .slice x.2.A' x.2.n' x.2.c']).ext hE1
      replace hown := (hown.ext (Ext.alloc wr (.cells #[.bool x.1.b, .slice x.1.A x.1.n x.1.c, .bool x.1.b', .slice x.1.A' x.1.n' x.1.c', .bool x.2.b, .slice x.2.A x.2.n x.2.c, .bool x.2.b', .slice x.2.A' x.2.n' x.2.c'] 106))).ext hE1
      have HM2 : Hid (SpOk w1 k M ∧ M.map spOf = ((l.take j).map spOf).filter nonempty ∧ M.length ≤ j) := Lib.hid ⟨(HM.out.1.ext (Ext.alloc _ _)).ext hE1, HM.out.2⟩
      replace hE := hE2.trans hE1
      generalize wr.heap.size = bx at *
      clear e0 e1 e2 e3 e4 e5 e6 e7 HC HM hE1 hE2
      by_cases hr : r < 0
      · have hlt2 := HNEG.out.1 hr
        have HM3 : Hid (M.map spOf ++ [spOf x] = ((l.take (j + 1)).map spOf).filter nonempty) := Lib.hid (by rw [HST.out, if_pos hlt2, HM2.out.2.1])
        have d1 : (r < 0) = True := eq_true hr
        clear hlt2 HST
        go_wp2_with fail
        apply wp_region_par' 9 (by kernel_rfl) (by kernel_rfl) rfl
        simp only [List.take_succ_cons, List.take_zero, List.drop_succ_cons, List.drop_zero]
        generalize hW : World.drew _ = W
        have hEW : Ext w1 W := Ext.of_drew (Ext.refl _) hW
        clear hW
        have zb := (xb.ext hEW).lcell
        have HQ1 := Lib.hid (fun z : Later W => HN1.out z.val (hE.trans (hEW.later z)))
        have HQ2 := Lib.hid (fun z : Later W => HN2.out z.val (hE.trans (hEW.later z)))
        clear HN1 HN2
        iterate 3
          refine parW_step rfl (fun K hK => ?_)
          apply Exists.intro
          refine ⟨fun z => ?_, ?_⟩
          focus
            go_simp
            first
              | rfl
              | fail
          go_simp
          refine hK _ ?_
          clear hK K
        refine parW_rel rfl (RV.stable x.1.q) (fun z => ?_) ?_
        · have hc := HQ1.out z
          simp only [Giv]
          go_simp
          exact calls_rel hc
        iterate 2
          refine parW_step rfl (fun K hK => ?_)
          apply Exists.intro
          refine ⟨fun z => ?_, ?_⟩
          focus
            go_simp
            first
              | rfl
              | fail
          go_simp
          refine hK _ ?_
          clear hK K
        refine parW_rel rfl (RV.stable x.2.q) (fun z => ?_) ?_
        · intro va hva
          have hc := HQ2.out z
          simp only [Giv]
          go_simp
          exact calls_rel hc
        refine parW_rel rfl (SpV.stable x.1.q x.2.q) (fun z => ?_) ?_
        · intro va hva vb hvb
          obtain ⟨p, rfl, hpq, hpa⟩ := RV.rq (hva (show Nat.testBit _ _ = true from by kernel_rfl))
          obtain ⟨q, rfl, hqq, hqa⟩ := RV.rq (hvb (show Nat.testBit _ _ = true from by kernel_rfl))
          have HR : Hid (SpV x.1.q x.2.q (.agg #[.bool p.b, .slice p.A p.n p.c, .bool p.b', .slice p.A' p.n' p.c', .bool q.b, .slice q.A q.n q.c, .bool q.b', .slice q.A' q.n' q.c']) z.val) := Lib.hid ⟨p, q, hpq, hqq, hpa, hqa, rfl⟩
          unfold RQ.v
          clear hva hvb hpq hpa hqq hqa
          simp only [Giv]
          go_simp
          exact HR.out
        refine parW_rel rfl (SpRow1.stable x.1.q x.2.q) (fun z => ?_) ?_
        · intro va hva vb hvb vc hvc
          obtain ⟨p, q, hpq, hqq, hpa, hqa, rfl⟩ := hvc (show Nat.testBit _ _ = true from by kernel_rfl)
          have HR := Lib.hid (SpRow1.made hpq hqq hpa hqa)
          clear hva hvb hvc hpq hpa hqq hqa
          simp only [Giv]
          go_simp
          exact ⟨Ext.alloc _ _, HR.out⟩
        refine parW_fin (fun z => ?_)
        rintro va oa vb ob vc oc vd od hp
        simp only [Act.put, List.setIfInBounds_toArray, List.set_cons_succ, List.set_cons_zero]
        have hEz := hEW.later z
        replace hown := hown.ext hEz
        have HM4 := Lib.hid (HM2.out.1.ext hEz)
        replace hE := hE.trans hEz
        clear zb HQ1 HQ2 hp xb hEz oa ob oc
        obtain ⟨p, q, hpq, hqq, hpa, hqa, hrow⟩ := od
        generalize z.val = Z at *
        clear z hEW
        have hlen : M.length + [(p, q)].length ≤ 1000000000 := by simp; omega
        have hsz := hE.size
        go_wp2_with (at_builtin; refine OwnC.wpApp spE spE_clean rfl _ _ rfl w.heap.size _ _ M [(p, q)] rfl rfl hown hrow hlen (by omega) ?_; intro v' w4 hown4 hg hd)
        go_roundw
        case rel =>
          refine ⟨j + 1, M ++ [(p, q)], by omega, by go_num, growExtC hE hown (Nat.le_refl _) hg, hown4, Lib.hid ⟨(HM4.out.dk hd).snoc (hpa.dk hd) (hqa.dk hd) (by rw [hpq]; exact HS1.out) (by rw [hqq]; exact HS2.out), ?_, by simp; omega⟩⟩
          rw [List.map_append, ← HM3.out]
          congr 1
          simp only [List.map_cons, List.map_nil, spOf, hpq, hqq]
        case measure => simp [intOf]; omega
      · have hlt2 : ¬ x.1.q < x.2.q := fun h => hr (HNEG.out.2 h)
        have HM3 : Hid (M.map spOf = ((l.take (j + 1)).map spOf).filter nonempty) := Lib.hid (by rw [HST.out, if_neg hlt2, HM2.out.2.1, List.append_nil])
        have d1 : (r < 0) = False := eq_false hr
        clear hlt2 HST
        go_wp2
        go_roundw
        case rel => exact ⟨j + 1, M, by omega, by go_num, hE, hown, Lib.hid ⟨HM2.out.1, HM3.out, by omega⟩⟩
        case measure => simp [intOf]; omega
    · have hjn : j = n := by omega
      subst hjn
      have hfin : l.take j = l := List.take_of_length_le (by rw [HN.out]; omega)
      have HMM := Lib.hid (show M.map spOf = (l.map spOf).filter nonempty from by have := HM.out.2.1; rwa [hfin] at this)
      have hM19 : M.length ≤ 19 := by have := HM.out.2.2; omega
      have HML := Lib.hid (show M.length ≤ l.length from by have := HM.out.2.2; rw [HN.out]; exact this)
      have HSO := Lib.hid (sp_sort hown hM19 (spCmp_ok HM.out.1 hk))
      have HOM := Lib.hid HM.out.1
      clear hfin HM hlt
      go_wp2_with fail
      refine HSO.out.mono ?_
      rintro e wS ⟨rfl, S, hperm, hsort, hownS, hgr, hdg⟩
      have hpw : M.Pairwise (fun a b => a.1.q < b.1.q) := by
        have h1 := HCH.out
        rw [← HMM.out] at h1
        have h2 := List.pairwise_map.1 (h1.1.imp_of_mem (S := fun s t => s.1 < t.1) fun {a b} ha hb hab => by have := h1.2 a ha; grind)
        exact h2
      have hSM := same_order hperm hsort hpw
      subst hSM
      have hES := growExtC hE hown (Nat.le_refl _) hgr
      have HOS := Lib.hid (HOM.out.dk hdg)
      clear HSO HOM hperm hsort hgr hdg hown hpw hE
      obtain ⟨m, hm⟩ : ∃ m, S.length = m := ⟨_, rfl⟩
      obtain ⟨A3, c3, rfl, hc3, hat3⟩ := hownS.own.at hm (by omega)
      have HM := Lib.hid hm
      have HAT3 := Lib.hid hat3
      rw [hm] at hM19
      clear hm hat3 hownS HAT HOK
      go_wp2_with fail
      generalize wr = wo at *
      go_loopw [6, 8, 9, 37] (fun v _ _ i wr => ∃ (j : Nat) (O : List SpR), j ≤ m ∧ i = .int .i64 j ∧ Ext wS wr ∧ OwnC spE wr wS.heap.size v O ∧ Hid (SpOk wr k O ∧ O.map spOf = mergeL ((S.take j).map spOf) ∧ O.length ≤ j)) (fun _ _ _ i _ => m - (intOf i).toNat)
      case atStart => exact ⟨0, [], by omega, rfl, Ext.refl _, OwnC.nil _ _, Lib.hid ⟨SpOk.nil _ _, rfl, by simp⟩⟩
      case round =>
        obtain ⟨j, O, hj, rfl, hEr, hownO, HO⟩ := hrel
        have hszr := hEr.size
        by_cases hlt : j < m
        · obtain ⟨x, hx⟩ : ∃ x, S[j]? = some x := ⟨_, List.getElem?_eq_getElem (by rw [HM.out]; exact hlt)⟩
          obtain ⟨b, o, rfl, hc⟩ := HAT3.out (by rintro rfl; simp at hx)
          obtain ⟨⟨x0, x1, x2, x3⟩, x4, x5, x6, x7⟩ := at8 hc hx
          have e0 := hEr.cell x0
          have e1 := hEr.cell x1
          have e2 := hEr.cell x2
          have e3 := hEr.cell x3
          have e4 := hEr.cell x4
          have e5 := hEr.cell x5
          have e6 := hEr.cell x6
          have e7 := hEr.cell x7
          obtain ⟨⟨a1, a2⟩, s1, s2⟩ := HOS.out x (List.mem_of_getElem? hx)
          have A1 := Lib.hid (a1.ext hEr)
          have A2 := Lib.hid (a2.ext hEr)
          have HS1 := Lib.hid s1
          have HS2 := Lib.hid s2
          have HST := Lib.hid (mergeL_step hx)
          obtain ⟨t, ht⟩ : ∃ t, O.length = t := ⟨_, rfl⟩
          have htj : t ≤ j := by rw [← ht]; exact HO.out.2.2
          have hEA := Ext.alloc wr (.cells #[.bool x.1.b, .slice x.1.A x.1.n x.1.c, .bool x.1.b', .slice x.1.A' x.1.n' x.1.c', .bool x.2.b, .slice x.2.A x.2.n x.2.c, .bool x.2.b', .slice x.2.A' x.2.n' x.2.c'] 106)
          have xb0 := Box.new wr 106 #[.bool x.1.b, .slice x.1.A x.1.n x.1.c, .bool x.1.b', .slice x.1.A' x.1.n' x.1.c', .bool x.2.b, .slice x.2.A x.2.n x.2.c, .bool x.2.b', .slice x.2.A' x.2.n' x.2.c']
          clear x0 x1 x2 x3 x4 x5 x6 x7 hc a1 a2 s1 s2 hx
          by_cases ht0 : t = 0
          · subst ht0
            have hO := List.eq_nil_of_length_eq_zero ht
            subst hO
            obtain ⟨Av, cv, rfl, _, _⟩ := hownO.own.at rfl (by simp)
            have HMR := Lib.hid (show [spOf x] = mergeL ((S.take (j + 1)).map spOf) from by rw [HST.out, ← HO.out.2.1]; rfl)
            simp only [List.length_nil] at hownO ⊢
            clear HST HO ht
            go_wp2_with fail
            apply wp_region_par' 14 (by kernel_rfl) (by kernel_rfl) rfl
            simp only [List.take_succ_cons, List.take_zero, List.drop_succ_cons, List.drop_zero]
            generalize hW : World.drew _ = W
            have hEW := Ext.of_drew hEA hW
            have xb := Box.of_drew xb0 hW
            clear hW
            iterate 14
              refine parW_step rfl (fun K hK => ?_)
              apply Exists.intro
              refine ⟨fun z => ?_, ?_⟩
              focus
                go_simp
                first
                  | rfl
                  | fail
              go_simp
              refine hK _ ?_
              clear hK K
            refine parW_end (fun z => ?_)
            have hEz := hEW.later z
            replace xb := xb.ext z.prop
            generalize z.val = Z at *
            clear z hEW
            have cb := xb.cell
            have hown1 := hownO.ext hEz
            have hE1 := hEr.trans hEz
            have hsz1 := hE1.size
            have hown2 := hown1.ext (Ext.alloc Z (.cells #[.bool x.1.b, .slice x.1.A x.1.n x.1.c, .bool x.1.b', .slice x.1.A' x.1.n' x.1.c', .bool x.2.b, .slice x.2.A x.2.n x.2.c, .bool x.2.b', .slice x.2.A' x.2.n' x.2.c'] 106))
            have hlen : ([] : List SpR).length + [x].length ≤ 1000000000 := by simp
            clear hownO e0 e1 e2 e3 e4 e5 e6 e7 xb0
            go_wp2_with (at_builtin; refine OwnC.wpApp spE spE_clean rfl _ _ rfl wS.heap.size _ _ [] [x] rfl rfl hown2 (sp_one x (Box.new _ _ _)) hlen (by simp; omega) ?_; intro v' w4 hown4 hg hd)
            go_roundw
            case rel =>
              have hd2 := (DigKeep.ext (hEz.trans (Ext.alloc Z (.cells #[.bool x.1.b, .slice x.1.A x.1.n x.1.c, .bool x.1.b', .slice x.1.A' x.1.n' x.1.c', .bool x.2.b, .slice x.2.A x.2.n x.2.c, .bool x.2.b', .slice x.2.A' x.2.n' x.2.c'] 106)))).trans hd
              exact ⟨j + 1, [x], by omega, by go_num, growExtC (hE1.trans (Ext.alloc _ _)) hown2 (Nat.le_refl _) hg, hown4, Lib.hid ⟨(SpOk.nil _ _).snoc (A1.out.dk hd2) (A2.out.dk hd2) HS1.out HS2.out, HMR.out, by simp⟩⟩
            case measure => simp [intOf]; omega
          · obtain ⟨t1, ht1⟩ : ∃ t1, t = t1 + 1 := ⟨t - 1, by omega⟩
            obtain ⟨q, hq⟩ : ∃ q, O[t1]? = some q := ⟨_, List.getElem?_eq_getElem (by omega)⟩
            obtain ⟨g, cap, rfl, hg0, hcap⟩ := hownO.own.head (by omega)
            rw [ht] at hcap hownO ⊢
            have hOq : O = O.take t1 ++ [q] := by
              have h1 : O.take (t1 + 1) = O := List.take_of_length_le (by omega)
              rw [List.take_add_one, hq] at h1
              exact h1.symm
            have HOM : Hid (O.map spOf = (O.take t1).map spOf ++ [spOf q]) := Lib.hid (by
              have := congrArg (List.map spOf) hOq
              rwa [List.map_append] at this)
            have HMS : Hid (mergeL ((S.take (j + 1)).map spOf) = if q.2.q < x.1.q then (O.take t1).map spOf ++ [spOf q] ++ [spOf x] else if q.2.q < x.2.q then (O.take t1).map spOf ++ [(q.1.q, x.2.q)] else (O.take t1).map spOf ++ [spOf q]) := Lib.hid (by
              rw [HST.out, ← HO.out.2.1, HOM.out, Go.TA.mergeStep_snoc]
              rfl)
            have HT := Lib.hid ht
            have HQ := Lib.hid hq
            obtain ⟨⟨_, b2⟩, _, sq2⟩ := HO.out.1 q (List.mem_of_getElem? hq)
            have HB2 := Lib.hid b2
            have HSQ := Lib.hid sq2
            have HK1 := Lib.hid (fun (z : World) (hz : Ext wr z) => cmpR (b2.ext hz).rv (A1.out.ext hz).rv sq2 HS1.out (by omega))
            have HK2 := Lib.hid (fun (z : World) (hz : Ext wr z) => cmpR (b2.ext hz).rv (A2.out.ext hz).rv sq2 HS2.out (by omega))
            have hn1 : cmpQ q.2.q x.1.q < 0 ↔ q.2.q < x.1.q := cmpQ_neg
            have hn2 : cmpQ q.2.q x.2.q < 0 ↔ q.2.q < x.2.q := cmpQ_neg
            generalize cmpQ q.2.q x.1.q = r1 at *
            generalize cmpQ q.2.q x.2.q = r2 at *
            have HN1 := Lib.hid hn1
            have HN2 := Lib.hid hn2
            obtain ⟨bb1, hbb1⟩ : ∃ bb, decide (r1 < 0) = bb := ⟨_, rfl⟩
            obtain ⟨bb2, hbb2⟩ : ∃ bb, decide (r2 < 0) = bb := ⟨_, rfl⟩
            obtain ⟨q0, q1, q2, q3, q4, q5, q6, q7⟩ := own_sp hownO hq
            unfold RQ.v at HK1 HK2
            have w1 : IntKind.i64.wrap ((t : Int) - 1) = (t1 : Int) := (IntWalk.i64_in _ (by omega)).trans (by omega)
            have n1 : t1 < t := by omega
            have n0 : ¬ t = 0 := ht0
            have n0' : ((t : Int) == 0) = false := by simp; omega
            have HT1 := Lib.hid ht1
            clear HST hn1 hn2 b2 sq2 hOq ht hq q0 q1 q2 q3 ht0 ht1
            go_wp2_with fail
            apply wp_region_par' 14 (by kernel_rfl) (by kernel_rfl) rfl
            simp only [List.take_succ_cons, List.take_zero, List.drop_succ_cons, List.drop_zero]
            generalize hW : World.drew _ = W
            have hEW := Ext.of_drew hEA hW
            have xb := Box.of_drew xb0 hW
            clear hW
            have zb := xb.lcell
            have y4 := fun z : Later W => z.cell (hEW.cell q4)
            have y5 := fun z : Later W => z.cell (hEW.cell q5)
            have y6 := fun z : Later W => z.cell (hEW.cell q6)
            have y7 := fun z : Later W => z.cell (hEW.cell q7)
            have HC := Lib.hid (fun z : Later W => HK1.out z.val (hEW.later z))
            clear HK1
            iterate 14
              refine parW_step rfl (fun K hK => ?_)
              apply Exists.intro
              refine ⟨fun z => ?_, ?_⟩
              focus
                go_simp
                first
                  | rfl
                  | with_reducible exact calls_val (HC.out _)
              go_simp
              refine hK _ ?_
              clear hK K
            refine parW_end (fun z => ?_)
            have hEz := hEW.later z
            replace xb := xb.ext z.prop
            have hown1 := hownO.ext hEz
            have hE1 := hEr.trans hEz
            have HO1 := Lib.hid (HO.out.1.ext hEz)
            have HP1 := Lib.hid (A1.out.ext hEz)
            have HP2 := Lib.hid (A2.out.ext hEz)
            have HPB := Lib.hid (HB2.out.ext hEz)
            have HK3 := Lib.hid (fun (Y : World) (hY : Ext z.val Y) => HK2.out Y (hEz.trans hY))
            clear y4 y5 y6 y7 zb HC q4 q5 q6 q7 HK2 hownO hEA xb0 e0 e1 e2 e3 e4 e5 e6 e7 hEr A1 A2 HB2
            generalize z.val = Z at *
            clear z hEW hEz
            have hsz1 := hE1.size
            have cb := xb.cell
            cases bb1
            case true =>
              have hlt1 := HN1.out.1 (of_decide_eq_true hbb1)
              have HMR := Lib.hid (show (O.map spOf) ++ [spOf x] = mergeL ((S.take (j + 1)).map spOf) from by rw [HMS.out, if_pos hlt1, HOM.out])
              have hown2 := hown1.ext (Ext.alloc Z (.cells #[.bool x.1.b, .slice x.1.A x.1.n x.1.c, .bool x.1.b', .slice x.1.A' x.1.n' x.1.c', .bool x.2.b, .slice x.2.A x.2.n x.2.c, .bool x.2.b', .slice x.2.A' x.2.n' x.2.c'] 106))
              have hlen : O.length + [x].length ≤ 1000000000 := by have := HT.out; have := HT1.out; simp; omega
              clear hbb1 hlt1 HMS w1 n1
              go_wp2_with (at_builtin; refine OwnC.wpApp spE spE_clean rfl _ _ rfl wS.heap.size _ _ O [x] rfl rfl hown2 (sp_one x (Box.new _ _ _)) hlen (by simp; omega) ?_; intro v' w4 hown4 hg hd)
              go_roundw
              case rel =>
                have hd2 := (DigKeep.ext (Ext.alloc Z (.cells #[.bool x.1.b, .slice x.1.A x.1.n x.1.c, .bool x.1.b', .slice x.1.A' x.1.n' x.1.c', .bool x.2.b, .slice x.2.A x.2.n x.2.c, .bool x.2.b', .slice x.2.A' x.2.n' x.2.c'] 106))).trans hd
                exact ⟨j + 1, O ++ [x], by omega, by go_num, growExtC (hE1.trans (Ext.alloc _ _)) hown2 (Nat.le_refl _) hg, hown4, Lib.hid ⟨(HO1.out.dk hd2).snoc (HP1.out.dk hd2) (HP2.out.dk hd2) HS1.out HS2.out, by rw [List.map_append]; exact HMR.out, by have := HT.out; have := HT1.out; simp; omega⟩⟩
              case measure => simp [intOf]; omega
            case false =>
              have hlt1 : ¬ q.2.q < x.1.q := fun h => absurd (HN1.out.2 h) (of_decide_eq_false hbb1)
              obtain ⟨q0, q1, q2, q3, q4, q5, q6, q7⟩ := own_sp hown1 HQ.out
              clear hbb1 q0 q1 q2 q3
              go_wp2_with fail
              apply wp_region_par' 10 (by kernel_rfl) (by kernel_rfl) rfl
              simp only [List.take_succ_cons, List.take_zero, List.drop_succ_cons, List.drop_zero]
              generalize hW : World.drew _ = W
              have hEW := Ext.of_drew (Ext.refl _) hW
              replace xb := xb.ext hEW
              clear hW
              have zb := xb.lcell
              have y4 := fun z : Later W => z.cell (hEW.cell q4)
              have y5 := fun z : Later W => z.cell (hEW.cell q5)
              have y6 := fun z : Later W => z.cell (hEW.cell q6)
              have y7 := fun z : Later W => z.cell (hEW.cell q7)
              have HC := Lib.hid (fun z : Later W => HK3.out z.val (hEW.later z))
              clear HK3 cb
              iterate 10
                refine parW_step rfl (fun K hK => ?_)
                apply Exists.intro
                refine ⟨fun z => ?_, ?_⟩
                focus
                  go_simp
                  first
                    | rfl
                    | with_reducible exact calls_val (HC.out _)
                go_simp
                refine hK _ ?_
                clear hK K
              refine parW_end (fun z => ?_)
              have hEz := hEW.later z
              replace xb := xb.ext z.prop
              replace hown1 := hown1.ext hEz
              replace hE1 := hE1.trans hEz
              have HO2 := Lib.hid (HO1.out.ext hEz)
              have HR2 := Lib.hid (HP2.out.ext hEz)
              clear y4 y5 y6 y7 zb HC q4 q5 q6 q7 HO1 HP1 HP2 HPB hsz1
              generalize z.val = Y at *
              clear z hEW hEz
              cases bb2
              case true =>
                have hlt2 := HN2.out.1 (of_decide_eq_true hbb2)
                have HMR := Lib.hid (show (O.set t1 (q.1, x.2)).map spOf = mergeL ((S.take (j + 1)).map spOf) from by
                  rw [HMS.out, if_neg hlt1, if_pos hlt2]
                  have h1 : O = O.take t1 ++ [q] := by
                    have h1 : O.take (t1 + 1) = O := List.take_of_length_le (by have := HT.out; have := HT1.out; omega)
                    rw [List.take_add_one, HQ.out] at h1
                    exact h1.symm
                  have h2 : (O.take t1).length = t1 := by rw [List.length_take]; have := HT.out; have := HT1.out; omega
                  rw [show O.set t1 (q.1, x.2) = O.take t1 ++ [(q.1, x.2)] from by
                    conv => lhs; rw [h1]
                    rw [List.set_append_right _ _ (by omega), h2, Nat.sub_self]
                    rfl]
                  rw [List.map_append]
                  rfl)
                have hset := hown1.putTo HQ.out x.2
                have hdig := hown1.digSet (ratE.enc x.2) (t1 * 8 + 4)
                have hext := (((hE1.set (p := ⟨g, t1 * 8 + 4, none⟩) hg0 (.bool x.2.b)).set (p := ⟨g, t1 * 8 + 4 + 1, none⟩) hg0 (.slice x.2.A x.2.n x.2.c)).set (p := ⟨g, t1 * 8 + 4 + 1 + 1, none⟩) hg0 (.bool x.2.b')).set (p := ⟨g, t1 * 8 + 4 + 1 + 1 + 1, none⟩) hg0 (.slice x.2.A' x.2.n' x.2.c')
                obtain ⟨q0, q1, q2, q3, q4, q5, q6, q7⟩ := own_sp hown1 HQ.out
                have fr := hown1.own.frozenAt (E := spE)
                have cb := xb.cell
                have HSET := Lib.hid hset
                have HDIG := Lib.hid hdig
                have HEXT := Lib.hid hext
                clear hbb2 hlt1 hlt2 HMS hset hdig hext hown1
                go_wp2_with fail
                go_roundw
                case rel =>
                  refine ⟨j + 1, O.set t1 (q.1, x.2), by omega, by go_num, HEXT.out, HSET.out, Lib.hid ⟨fun z hz => ?_, HMR.out, by rw [List.length_set]; have := HT.out; have := HT1.out; omega⟩⟩
                  rcases List.mem_or_eq_of_mem_set hz with hz | rfl
                  · exact (HO2.out.dk HDIG.out) z hz
                  · have h3 := (HO2.out.dk HDIG.out) q (List.mem_of_getElem? HQ.out)
                    exact ⟨⟨h3.1.1, HR2.out.dk HDIG.out⟩, h3.2.1, HS2.out⟩
                case measure => simp [intOf]; omega
              case false =>
                have hlt2 : ¬ q.2.q < x.2.q := fun h => absurd (HN2.out.2 h) (of_decide_eq_false hbb2)
                have HMR := Lib.hid (show O.map spOf = mergeL ((S.take (j + 1)).map spOf) from by rw [HMS.out, if_neg hlt1, if_neg hlt2, HOM.out])
                clear hbb2 hlt1 hlt2 HMS
                go_wp2_with fail
                go_roundw
                case rel => exact ⟨j + 1, O, by omega, by go_num, hE1, hown1, Lib.hid ⟨HO2.out, HMR.out, by have := HT.out; have := HT1.out; omega⟩⟩
                case measure => simp [intOf]; omega
        · have hjm : j = m := by omega
          subst hjm
          have hfin : S.take j = S := List.take_of_length_le (by rw [HM.out]; omega)
          have HF := Lib.hid (show O.map spOf = mergeL ((l.map spOf).filter nonempty) from by have := HO.out.2.1; rwa [hfin, HMM.out] at this)
          have HL := Lib.hid (show O.length ≤ l.length from by have h1 := HO.out.2.2; have h2 := HML.out; rw [HM.out] at h2; omega)
          have hsz2 := hES.size
          clear hfin hlt
          go_wp2_with fail
          go_ret
          exact ⟨_, O, rfl, hES.trans hEr, hownO.lower hsz2, HO.out.1, HF.out, HL.out⟩
end Go.Proofs.YtodefmfgoehkhaaGreat
