/- scanline.marks. -/
import Derived.Test.YtodefmfgoehkhaaGreatZS
set_option linter.unusedVariables false
set_option linter.unusedSimpArgs false
namespace Go.Proofs.YtodefmfgoehkhaaGreat
open Go.RowKit Go.Par Go.Shelf Go.TN
open Go.TA (E2 Mk xAt crosses upOf markAt leM MarksOf)
attribute [local go_sem] Oper.semAt_some

theorem crosses_mul {e : E2} {y : Rat} : cmpQ (e.1.2 : Rat) y * cmpQ (e.2.2 : Rat) y < 0 ↔ crosses e y = true := by
  have b1 := cmpQ_bd (e.1.2 : Rat) y
  have b2 := cmpQ_bd (e.2.2 : Rat) y
  have n1 := cmpQ_neg (a := (e.1.2 : Rat)) (b := y)
  have n2 := cmpQ_neg (a := (e.2.2 : Rat)) (b := y)
  have p1 := cmpQ_pos (a := (e.1.2 : Rat)) (b := y)
  have p2 := cmpQ_pos (a := (e.2.2 : Rat)) (b := y)
  generalize cmpQ (e.1.2 : Rat) y = r1 at *
  generalize cmpQ (e.2.2 : Rat) y = r2 at *
  unfold crosses
  simp only [Bool.or_eq_true, decide_eq_true_eq]
  rw [← n1, ← n2, ← p1, ← p2]
  obtain h1 | h1 | h1 : r1 = -1 ∨ r1 = 0 ∨ r1 = 1 := by omega
  all_goals
    obtain h2 | h2 | h2 : r2 = -1 ∨ r2 = 0 ∨ r2 = 1 := by omega
    all_goals
      subst h1 h2
      decide
theorem crosses_up {e : E2} {y : Rat} (h : crosses e y = true) : cmpQ (e.2.2 : Rat) y = upOf e := by
  have b2 := cmpQ_bd (e.2.2 : Rat) y
  have n2 := cmpQ_neg (a := (e.2.2 : Rat)) (b := y)
  have p2 := cmpQ_pos (a := (e.2.2 : Rat)) (b := y)
  unfold crosses at h
  simp only [Bool.or_eq_true, decide_eq_true_eq] at h
  unfold upOf
  rcases h with ⟨h1, h2⟩ | ⟨h1, h2⟩
  · have h3 : e.1.2 < e.2.2 := Rat.intCast_lt_intCast.1 (by grind)
    rw [if_pos h3]
    have := p2.2 h2
    omega
  · have h3 : e.2.2 < e.1.2 := Rat.intCast_lt_intCast.1 (by grind)
    rw [if_neg (by omega)]
    have := n2.2 h1
    omega
theorem cmpQ_mul_bd (a b c d : Rat) : -1 ≤ cmpQ a b * cmpQ c d ∧ cmpQ a b * cmpQ c d ≤ 1 := by
  have b1 := cmpQ_bd a b
  have b2 := cmpQ_bd c d
  generalize cmpQ a b = r1 at *
  generalize cmpQ c d = r2 at *
  obtain h1 | h1 | h1 : r1 = -1 ∨ r1 = 0 ∨ r1 = 1 := by omega
  all_goals
    obtain h2 | h2 | h2 : r2 = -1 ∨ r2 = 0 ∨ r2 = 1 := by omega
    all_goals
      subst h1 h2
      decide
def mkOf (x : MkR) : Mk := (x.1.q, x.2)
theorem marks_sorted {M : List MkR} (h : SortedC cfM M) : (M.map mkOf).Pairwise leM := by
  rw [List.pairwise_map]
  refine h.imp fun {x y} k => ?_
  rw [cfM_neg] at k
  unfold leM mkOf
  dsimp only
  rcases Classical.em (x.1.q < y.1.q) with h1 | h1
  · exact .inl h1
  · refine .inr ⟨?_, ?_⟩
    · rcases Classical.em (y.1.q < x.1.q) with h2 | h2
      · exact absurd (.inl h2) k
      · grind
    · by_cases h2 : y.2 ≤ x.2
      · exact h2
      · have e : x.1.q = y.1.q := by
          rcases Classical.em (y.1.q < x.1.q) with h3 | h3
          · exact absurd (.inl h3) k
          · grind
        exact absurd (.inr ⟨e.symm, by omega⟩) k
section
variable {w X Y Z : World} {by_ bo p0 p1 Bp Bq : Nat} {yq : RQ} {v : Value} {M : List MkR} {y : Rat} {kk : Nat} {x : E2}
/-- what lies while the marks are found -/
structure MkSt (w : World) (by_ bo p1 : Nat) (yq : RQ) (kk : Nat) (X : World) (v : Value) (M : List MkR) : Prop where
  ext : Ext w X
  xy : Box X by_ 29 yq.cs
  xo : Box X bo 107 #[v]
  own : OwnC mkE X p1 v M
  hm : ∀ x ∈ M, x.1.At X ∧ Sz kk x.1.q
  hy : yq.At X
  size : p1 ≤ X.heap.size
theorem MkSt.to (h : MkSt w by_ bo p1 yq kk X v M) (he : Ext X Y) : MkSt w by_ bo p1 yq kk Y v M :=
  ⟨h.ext.trans he, h.xy.ext he, h.xo.ext he, h.own.ext he, fun x hx => ⟨(h.hm x hx).1.ext he, (h.hm x hx).2⟩, h.hy.ext he, Nat.le_trans h.size he.size⟩
theorem MkSt.turn {row : Option Nat} (h : MkSt w by_ bo p1 yq kk X v M) (hw : w.heap.size ≤ p1) (hg : Grown X Y row) (hr : ∀ r, row = some r → p1 ≤ r ∧ ∃ o : Obj, X.heap[r]? = some o ∧ o.isCells = false) : MkSt w by_ bo p1 yq kk Y v M :=
  ⟨ext_turn h.ext hw hg hr, h.xy.turn hg hr, h.xo.turn hg hr, h.own.turn hg hr, fun x hx => ⟨(h.hm x hx).1.dk (dig_turn hg hr), (h.hm x hx).2⟩, h.hy.dk (dig_turn hg hr), Nat.le_trans h.size hg.size⟩
def MkI (w : World) (by_ bo p1 : Nat) (yq : RQ) (kk : Nat) (pre : List E2) (X : World) : Prop := ∃ v M, MkSt w by_ bo p1 yq kk X v M ∧ M.map mkOf = (pre.filter (crosses · yq.q)).map (markAt yq.q)
theorem ownD_mkI (hw : w.heap.size ≤ p1) : OwnD p1 (MkI w by_ bo p1 yq kk) := by
  rintro pre X Y row ⟨v, M, st, hq⟩ hg hr
  exact ⟨v, M, st.turn hw hg hr, hq⟩
end
def MarksPost (w : World) (L : List (List P2)) (y : Rat) (k : Nat) (e : Ending) (w' : World) : Prop := ∃ v M, e = .returned v ∧ Ext w w' ∧ OwnC mkE w' w.heap.size v M ∧ (∀ x ∈ M, x.1.At w' ∧ Sz (k + 10) x.1.q) ∧ MarksOf (edgesL L) y (M.map mkOf) ∧ M.length ≤ lenS L
theorem marksCmp_ok {X : World} {M : List MkR} {k : Nat} (hm : ∀ x ∈ M, x.1.At X ∧ Sz k x.1.q) (hk : k ≤ 1000000) : CmpOk_mk X M := fun W x y hd hx hy =>
  mkCmp_any ((hm x hx).1.dk hd) ((hm y hy).1.dk hd) (hm x hx).2 (hm y hy).2 hk
set_option maxRecDepth 100000 in
set_option maxHeartbeats 1600000 in
theorem marks_any (L : List (List P2)) (A : Option Addr) (c : Nat) {u : Value} {y : Rat} {k : Nat} (w : World) (hS : lenS L ≤ 19) (hLn : L.length ≤ 1000) (hv : validL L = true) (hL : RingsAt w A L) (hu : RV w u y) (hs : Sz k y) (hk : k ≤ 100000) :
    Calls Tryz.prog 68 #[.slice A L.length c, u] w (MarksPost w L y k) := by
  have HED := Lib.hid (fun W (h : Ext w W) => Edges_any L A c W (by omega) (by omega) hv (hL.ext h))
  have HIN := Lib.hid (show ∀ r ∈ L, ∀ p ∈ r, InC p from fun r hr p hp => by
    simp only [validL, Bool.and_eq_true, List.all_eq_true] at hv
    exact InC.of (hv.2 r hr p hp))
  obtain ⟨yq, rfl, hyq, hya⟩ := hu.rq
  subst hyq
  obtain ⟨n, hn⟩ : ∃ n, n = L.length := ⟨_, rfl⟩
  rw [← hn] at HED hLn ⊢
  have HN := Lib.hid hn
  have HS := Lib.hid hS
  have HSY := Lib.hid hs
  clear hn hS hv hL hu hs
  have hE := (Ext.alloc w (.cells yq.cs 29)).trans (Ext.alloc _ (.cells #[.slice none 0 0] 107))
  have x3 := (Box.new w 29 yq.cs).alloc (.cells #[.slice none 0 0] 107)
  have x5 := Box.at1 (w := w) (o := .cells yq.cs 29) (t := 107) (cs := #[.slice none 0 0])
  unfold RQ.v
  refine (callsIn_wide (n := 20)).1 ?_
  refine callsIn_of_wp_marks Tryz.func68 rfl trivial ?_ rfl
  simp only [Tryz.ntmps68, List.size_toArray, List.length_cons, List.length_nil, Nat.reduceAdd, Nat.reduceSub, Array.replicate_succ, Array.replicate_zero, List.push_toArray, List.append_toArray, List.nil_append, List.cons_append]
  gi_wp2_with fail
  refine ⟨trivial, ?_⟩
  refine (callsIn_wide.2 (HED.out _ hE)).mono ?_
  rintro e w3 ⟨g, rfl, hE1, hmem⟩
  obtain ⟨p0, hp0⟩ : ∃ p0, p0 = ((w.alloc (.cells yq.cs 29)).alloc (.cells #[.slice none 0 0] 107)).heap.size := ⟨_, rfl⟩
  have hbo : w.heap.size + 1 < p0 := by rw [hp0]; simp
  have hp01 : p0 ≤ w3.heap.size := by rw [hp0]; exact hE1.size
  have hst : MkSt w w.heap.size (w.heap.size + 1) w3.heap.size yq (k + 10) w3 (.slice none 0 0) [] := ⟨hE.trans hE1, x3.ext hE1, x5.ext hE1, OwnC.nil _ _, (fun x hx => by cases hx), (hya.ext hE).ext hE1, Nat.le_refl _⟩
  have hI0 : MkI w w.heap.size (w.heap.size + 1) w3.heap.size yq (k + 10) [] w3 := ⟨_, _, hst, rfl⟩
  have hw3 := hst.ext.size
  rw [← hp0] at hmem
  clear hst hp0 hE1 hE x3 x5 hya HED
  gi_wp2_with fail
  refine with_tmps (fun T hT => ?_)
  refine wpIn_rangeAll (gf := 100) (lb := #[.pointer (some ⟨g, 0, none⟩)]) (by rw [hT]; rfl) (enters_of Tryz.func100 (by kernel_rfl) rfl)
    (encs := fun e : E2 => #[ptV e.1, ptV e.2]) (fun _ => rfl) (Mid p0 w3.heap.size) (fun h k => h.trans k) (fun X l o o' hl ho hc => Mid.putObj hl o') (edgesL L)
    (fun l J X hX hJ hY h0 => edges1_in (20 - 1) l g p0 w3.heap.size L (by rw [← HN.out]; omega) (fun r hr => by
      obtain ⟨j, hj⟩ := List.mem_iff_getElem?.1 hr
      have h1 := mem_len hj
      have h2 := HS.out
      omega) X hX.size (hmem.mid (Mid.ext hX (Nat.le_refl _))) J hJ hY h0)
    (MkI w w.heap.size (w.heap.size + 1) w3.heap.size yq (k + 10)) (ownD_mkI hw3) hI0
    (fun x a' X => ∃ Bp Bq, Box X Bp 49 #[.int .i64 x.1.1, .int .i64 x.1.2] ∧ Box X Bq 49 #[.int .i64 x.2.1, .int .i64 x.2.2] ∧
      a' = { tmps := (((T.setIfInBounds 14 (ptV x.1)).setIfInBounds 15 (ptV x.2)).setIfInBounds 6 (.pointer (some ⟨Bp, 0, none⟩))).setIfInBounds 7 (.pointer (some ⟨Bq, 0, none⟩)), defers := [] })
    (fun x a' _ A X row hs hg hr => by
      obtain ⟨Bp, Bq, h1, h2, h3⟩ := hs
      exact ⟨Bp, Bq, h1.turn hg hr, h2.turn hg hr, h3⟩)
    ?assign ?body ?done
  case assign =>
    rintro m l1 pre x X K hi hK
    have hsz : w3.heap.size ≤ X.heap.size := by obtain ⟨_, _, h, _⟩ := hi; exact h.size
    obtain ⟨⟨x1, x2⟩, x3, x4⟩ := x
    subst hT
    dsimp only [ptV]
    gi_wp2
    exact hK _ _ (((KeepsOthers.alloc _ _).trans (KeepsOthers.alloc _ _)).from _) ((Mid.alloc hsz _).trans (Mid.alloc (by simp; omega) _)) ((ownD_mkI hw3).alloc _ ((ownD_mkI hw3).alloc _ hi)) ⟨X.heap.size, X.heap.size + 1, (Box.new _ _ _).alloc _, Box.at1, rfl⟩
  case body =>
    rintro m l1 pre x a' X ⟨v, M, hst, hq⟩ ⟨Bp, Bq, xp, xq, rfl⟩ hpre
    subst hT
    simp only [List.setIfInBounds_toArray, List.set_cons_succ, List.set_cons_zero]
    have hxm : x ∈ edgesL L := hpre.subset (List.mem_append_right _ (List.mem_singleton.2 rfl))
    obtain ⟨⟨ra, hra, hpa⟩, rb, hrb, hpb⟩ := edges_in HIN.out hxm
    have ip1 := HIN.out ra hra x.1 hpa
    have ip2 := HIN.out rb hrb x.2 hpb
    have hpl : M.length < 19 := by
      have h1 := hpre.length_le
      rw [List.length_append, List.length_singleton] at h1
      have h2 := edgesL_length L
      have h3 := HS.out
      have h4 := congrArg List.length hq
      rw [List.length_map, List.length_map] at h4
      have h5 := List.length_filter_le (crosses · yq.q) pre
      omega
    have hszX := hst.size
    clear hra hrb hpa hpb hxm hpre
    obtain ⟨⟨x1, x2⟩, x3, x4⟩ := x
    dsimp only [ptV]
    unfold InC at ip1 ip2
    dsimp only at ip1 ip2
    gi_wp2_with fail
    refine wpIn_region_par (by kernel_rfl) (by kernel_rfl) rfl rfl ?_
    have sa := Sz.coord (z := x2) (by omega) (by omega)
    have sb := Sz.coord (z := x4) (by omega) (by omega)
    have HF1 := Lib.hid (fun W => fromIntV x2 W (by omega) (by omega))
    have HF2 := Lib.hid (fun W => fromIntV x4 W (by omega) (by omega))
    have hcm := crosses_mul (e := ((x1, x2), (x3, x4))) (y := yq.q)
    have hcu := crosses_up (e := ((x1, x2), (x3, x4))) (y := yq.q)
    have hmb := cmpQ_mul_bd (x2 : Rat) yq.q (x4 : Rat) yq.q
    dsimp only at hcm hcu
    generalize hW : World.drew _ = W
    have hEW : Ext X W := Ext.of_drew (Ext.refl _) hW
    replace hst := hst.to hEW
    replace xp := xp.ext hEW
    replace xq := xq.ext hEW
    have HC1 := Lib.hid (fun (z : Later W) v (hv : RV z.val v (x2 : Rat)) => cmpR hv (hst.hy.ext z.prop).rv sa HSY.out (by omega))
    have HC2 := Lib.hid (fun (z : Later W) v (hv : RV z.val v (x4 : Rat)) => cmpR hv (hst.hy.ext z.prop).rv sb HSY.out (by omega))
    generalize cmpQ (x2 : Rat) yq.q = r1 at *
    generalize cmpQ (x4 : Rat) yq.q = r2 at *
    obtain ⟨pr, hpr⟩ : ∃ pr, pr = r1 * r2 := ⟨_, rfl⟩
    rw [← hpr] at hcm hmb
    have HCM := Lib.hid hcm
    have HCU := Lib.hid hcu
    have HQ := Lib.hid hq
    have w1 : IntKind.i64.wrap (r1 * r2) = pr := (IntWalk.i64_in _ (by omega)).trans hpr.symm
    clear hpr
    clear hW hcm hcu sa sb hmb hq
    have zp := xp.lcell
    have zq := xq.lcell
    have zy := hst.xy.lcell
    iterate 2
      refine parW_step rfl (fun K hK => ?_)
      apply Exists.intro
      refine ⟨fun z => ?_, ?_⟩
      focus
        go_simp
        first
          | rfl
          | fail
      go_simp
      refine hK _ ?_
      clear hK K
    refine parW_rel rfl (RV.stable (x2 : Rat)) (fun x => ?_) ?_
    · have hc := HF1.out x.val
      simp only [Giv]
      go_simp
      exact calls_rel hc
    iterate 1
      refine parW_step rfl (fun K hK => ?_)
      apply Exists.intro
      refine ⟨fun z => ?_, ?_⟩
      focus
        go_simp
        first
          | rfl
          | fail
      go_simp
      refine hK _ ?_
      clear hK K
    refine parW_giv (c := .int .i64 r1) (fun x => ?_) ?_
    · intro va hva
      have k1 := hva (show Nat.testBit _ _ = true from by kernel_rfl)
      have hc := HC1.out x va k1
      unfold RQ.v at hc
      simp only [Giv]
      go_simp
      exact calls_val hc
    iterate 2
      refine parW_step rfl (fun K hK => ?_)
      apply Exists.intro
      refine ⟨fun z => ?_, ?_⟩
      focus
        go_simp
        first
          | rfl
          | fail
      go_simp
      refine hK _ ?_
      clear hK K
    refine parW_rel rfl (RV.stable (x4 : Rat)) (fun x => ?_) ?_
    · intro va hva
      have hc := HF2.out x.val
      simp only [Giv]
      go_simp
      exact calls_rel hc
    iterate 1
      refine parW_step rfl (fun K hK => ?_)
      apply Exists.intro
      refine ⟨fun z => ?_, ?_⟩
      focus
        go_simp
        first
          | rfl
          | fail
      go_simp
      refine hK _ ?_
      clear hK K
    refine parW_giv (c := .int .i64 r2) (fun x => ?_) ?_
    · intro va hva vb hvb
      have k2 := hvb (show Nat.testBit _ _ = true from by kernel_rfl)
      have hc := HC2.out x vb k2
      unfold RQ.v at hc
      simp only [Giv]
      go_simp
      exact calls_val hc
    iterate 2
      refine parW_step rfl (fun K hK => ?_)
      apply Exists.intro
      refine ⟨fun z => ?_, ?_⟩
      focus
        go_simp
        first
          | rfl
          | fail
      go_simp
      refine hK _ ?_
      clear hK K
    refine parW_fin (fun z => ?_)
    rintro va oa vb ob hp
    simp only [Act.put, List.setIfInBounds_toArray, List.set_cons_succ, List.set_cons_zero]
    replace hst := hst.to z.prop
    replace xp := xp.ext z.prop
    replace xq := xq.ext z.prop
    replace hEW := hEW.later z
    clear zp zq zy HF1 HF2 HC1 HC2 oa ob hp
    generalize z.val = Z at *
    have cp := xp.cell
    have cq := xq.cell
    have cy := hst.xy.cell
    by_cases hneg : pr < 0
    · have d1 : (0 ≤ pr) = False := eq_false (by omega)
      have hcr := HCM.out.1 hneg
      have HXA := Lib.hid (XAt_any (a1 := x1) (a2 := x2) (b1 := x3) (b2 := x4) ip1 ip2 hst.hy.rv HSY.out (by omega) hcr)
      have HUP := Lib.hid (HCU.out hcr)
      have SX : Sz (k + 10) (xAt ((x1, x2), (x3, x4)) yq.q) := Sz.xAt ip1 ip2 HSY.out (by
        intro e
        subst e
        simp [crosses] at hcr
        grind)
      unfold RQ.v at HXA
      have HCR := Lib.hid hcr
      clear ip1 ip2 hcr
      gi_wp2_with fail
      refine ⟨trivial, fun h => (by simp [Fence.wide] at h), ?_⟩
      refine (CallsIn.inRound l1 (callsIn_wide.2 HXA.out)).mono ?_
      rintro e Y ⟨vx, rfl, hEY, hrv⟩
      obtain ⟨xx, rfl, hxx, hxa⟩ := hrv.rq
      have hE2 := (Ext.alloc Y (.cells xx.cs 29)).trans (Ext.alloc _ (.cells #[.bool xx.b, .slice xx.A xx.n xx.c, .bool xx.b', .slice xx.A' xx.n' xx.c', .int .i64 r2] 110))
      have hs3 := (hst.to hEY).to hE2
      have co := ((hst.to hEY).to (Ext.alloc Y (.cells xx.cs 29))).xo.cell
      have hrow1 := mk_one (xx, r2) (Box.at1 (w := Y) (o := .cells xx.cs 29) (t := 110) (cs := #[.bool xx.b, .slice xx.A xx.n xx.c, .bool xx.b', .slice xx.A' xx.n' xx.c', .int .i64 r2]))
      have hlen3 : M.length + [(xx, r2)].length ≤ 1000000000 := by simp; omega
      have hne1 := hs3.own.ne_box hs3.xo (by decide)
      have hxa3 := hxa.ext hE2
      have hEZ3 := hEW.trans (hEY.trans hE2)
      clear cp cq cy HXA xp xq hEY hst hrv hxa
      unfold RQ.v
      gi_wp2_with (gi_at_builtin; refine OwnC.wpAppIn mkE mkE_clean rfl _ _ rfl w3.heap.size _ _ M [(xx, r2)] rfl rfl hs3.own hrow1 hlen3 hs3.size ?_; intro v' w4 hown4 hg hd hv'; obtain ⟨g4, cap4, e4, _, _⟩ := hown4.own.head (by simp); simp only [List.length_append, List.length_cons, List.length_nil, Nat.zero_add] at e4; subst e4; have xo4 := boxGrown hs3.xo hg hne1; have co4 := xo4.cell; have fo4 := xo4.frozen)
      have hb4 := (But.refl (w.heap.size + 1) w4).set 0 (.slice (some ⟨g4, 0, none⟩) (M.length + 1) cap4)
      have hdo := DigKeep.but hb4 (NoDig.but_set xo4 (fun d e => by
        rcases hs3.own.own.2 with ⟨e', _⟩ | ⟨_, _, _, e', _⟩
        · rw [e'] at e; cases e
        · rw [e'] at e; cases e))
      have hst1 := (Stp.grown (bo := w.heap.size + 1) hg hd).trans (Stp.but hb4 hdo)
      have hrow : ∀ g, v.ownBlock = some g → g < p0 ∨ w3.heap.size ≤ g := fun g e => .inr (hs3.own.lt e).1
      refine ⟨((hEZ3.keeps).trans (hst1.keeps hs3.xo hs3.own)).from _, (Mid.ext hEZ3 hszX).trans (hst1.mid hs3.size (.inl hbo) hrow), .slice (some ⟨g4, 0, none⟩) (M.length + 1) cap4, M ++ [(xx, r2)], ⟨hst1.ext hs3.ext (by omega) (fun g e => Nat.le_trans hw3 (hs3.own.lt e).1), hst1.box hs3.xy (by omega) (hs3.own.ne_box hs3.xy (by decide)), xo4.set 0 _, hown4.but hb4 (hown4.ne_box xo4 (by decide)), fun z hz => ?_, hs3.hy.dk hst1.dig, Nat.le_trans hs3.size hst1.size⟩, ?_⟩
      · rcases List.mem_append.1 hz with hz | hz
        · exact ⟨(hs3.hm z hz).1.dk hst1.dig, (hs3.hm z hz).2⟩
        · rw [List.mem_singleton] at hz
          subst hz
          exact ⟨hxa3.dk hst1.dig, by rw [hxx]; exact SX⟩
      · rw [List.map_append, List.filter_append, List.map_append, HQ.out]
        congr 1
        have : List.filter (crosses · yq.q) [((x1, x2), (x3, x4))] = [((x1, x2), (x3, x4))] := by simp [HCR.out]
        rw [this]
        simp only [List.map_cons, List.map_nil, mkOf, markAt, hxx, HUP.out]
    · have d1 : (0 ≤ pr) = True := eq_true (by omega)
      have hcr : crosses ((x1, x2), (x3, x4)) yq.q = false := by
        cases hc : crosses ((x1, x2), (x3, x4)) yq.q
        · rfl
        · exact absurd (HCM.out.2 hc) hneg
      gi_wp2
      refine ⟨hEW.keeps.from _, Mid.ext hEW hszX, v, M, hst, ?_⟩
      rw [List.filter_append, HQ.out]
      have : List.filter (crosses · yq.q) [((x1, x2), (x3, x4))] = [] := by simp [hcr]
      rw [this, List.append_nil]
  case done =>
    rintro D X hD ⟨v, M, hst, hq⟩ hK
    subst hT
    have hpl : M.length ≤ lenS L := by
      have h2 := edgesL_length L
      have h4 := congrArg List.length hq
      rw [List.length_map, List.length_map] at h4
      have h5 := List.length_filter_le (crosses · yq.q) (edgesL L)
      omega
    have hS19 := HS.out
    have HR := Lib.hid (mk_sort hst.own (by omega) (marksCmp_ok hst.hm (by omega)))
    have co := hst.xo.cell
    clear hmem
    gi_wp2_with fail
    refine ⟨trivial, ?_⟩
    refine (callsIn_wide.2 HR.out).mono ?_
    rintro e Y ⟨rfl, M', hperm, hsort, hown, hgr, hdg⟩
    have hKY : Y.heap[D]? = some (.deferred (some [])) := (hgr.block D (Array.getElem?_eq_some_iff.1 hK).1 (fun e => by
      obtain ⟨cur, hb⟩ := hst.own.box e.symm
      rw [show X.heap[D]? = _ from hb] at hK
      cases hK)).trans hK
    have hEY : Ext w Y := (Stp.grown (bo := w.heap.size + 1) hgr hdg).ext hst.ext (by omega) (fun g e => Nat.le_trans hw3 (hst.own.lt e).1)
    have hgp : Grown Y (Y.putObj D (.deferred none)) (some D) := ⟨grownBy_putObj' Y D _, Nat.le_refl _⟩
    have hrp : ∀ r, some D = some r → w.heap.size ≤ r ∧ ∃ o : Obj, Y.heap[r]? = some o ∧ o.isCells = false := fun r e => by
      injection e with e
      subst e
      exact ⟨by omega, _, hKY, rfl⟩
    have hdp := dig_turn hgp hrp
    have hxo := boxGrown hst.xo hgr (hst.own.ne_box hst.xo (by decide))
    have HFIN := Lib.hid (show ∀ x ∈ M', x.1.At (Y.putObj D (.deferred none)) ∧ Sz (k + 10) x.1.q from fun x hx => ⟨((hst.hm x (hperm.mem_iff.1 hx)).1.dk hdg).dk hdp, (hst.hm x (hperm.mem_iff.1 hx)).2⟩)
    have HMK := Lib.hid (show MarksOf (edgesL L) yq.q (M'.map mkOf) from ⟨by rw [← hq]; exact hperm.map _, marks_sorted hsort⟩)
    have hext := ext_turn hEY (Nat.le_refl _) hgp hrp
    have hown' := (hown.turn hgp hrp).lower hw3
    have hll := hperm.length_eq
    clear co HR hsort hperm hdg hgr hown
    have co := hxo.cell
    gi_wp2
    refine ⟨by simp, .inl ⟨_, _, rfl, run_takeDeferred hKY, ?_⟩⟩
    exact ⟨_, results_tmp rfl _ _ _, v, M', rfl, hext, hown', HFIN.out, HMK.out, by omega⟩
end Go.Proofs.YtodefmfgoehkhaaGreat
