/- Texts put together: TyJ, TyK, TyL. -/
import Derived.Test.YtodefmfgoehkhaaGreatZT
/- area.InBox: the closure that adds a band. -/
set_option linter.unusedVariables false
set_option linter.unusedSimpArgs false
namespace Go.Proofs.YtodefmfgoehkhaaGreat
open Go.RowKit Go.Par Go.Shelf Go.TN Go.Lib
open Go.TA (E2 Mk leM Sp Chain Apart mergeL mergeStep nonempty cut1 clampR MarksOf spansOf lineLen)

/-- what Spans has handed back -/
def SpansV (L : List (List P2)) (rule : Int) (y : Rat) (k : Nat) (v : Value) (w : World) : Prop :=
  ∃ A m c M, v = .slice A m c ∧ M.length = m ∧ m ≤ 19 ∧ spE.At w A M ∧ SpOk w k M ∧ ∃ ms, MarksOf (edgesL L) y ms ∧ M.map spOf = mergeL ((spansOf (fun n => fillsS n rule) 0 ms).filter nonempty)
theorem SpansV.stable (L : List (List P2)) (rule : Int) (y : Rat) (k : Nat) : Stable (SpansV L rule y k) := fun _ _ _ ⟨A, m, c, M, h1, h2, h3, h4, h5, h6⟩ he => ⟨A, m, c, M, h1, h2, h3, h4.ext he, h5.ext he, h6⟩
theorem SpansV.of {w w' : World} {L : List (List P2)} {rule : Int} {y : Rat} {k : Nat} {e : Ending} (h : SpansPost w L rule y k e w') : ∃ v, e = .returned v ∧ Ext w w' ∧ SpansV L rule y k v w' := by
  obtain ⟨v, M, rfl, hE, hown, hok, hms, hl⟩ := h
  obtain ⟨A, c, rfl, _, hat⟩ := hown.own.at rfl (by omega)
  exact ⟨_, rfl, hE, A, _, c, M, rfl, rfl, hl, hat, hok, hms⟩
/-- a number of which also the size is known -/
def RVS (k : Nat) (q : Rat) (v : Value) (w : World) : Prop := RV w v q ∧ Sz k q
theorem RVS.stable (k : Nat) (q : Rat) : Stable (RVS k q) := fun _ _ _ ⟨h1, h2⟩ he => ⟨h1.ext he, h2⟩
theorem Length_of {w : World} {L : List (List P2)} {rule : Int} {y : Rat} {v : Value} {lo hi : RQ} (h : SpansV L rule y 25 v w) (hlo : lo.At w) (hhi : hi.At w) (s1 : Sz 2 lo.q) (s2 : Sz 2 hi.q) (hle : lo.q ≤ hi.q) :
    Calls Tryz.prog 40 #[v, .agg #[.bool lo.b, .slice lo.A lo.n lo.c, .bool lo.b', .slice lo.A' lo.n' lo.c'], .agg #[.bool hi.b, .slice hi.A hi.n hi.c, .bool hi.b', .slice hi.A' hi.n' hi.c']] w
      fun e w' => ∃ v, e = .returned v ∧ Ext w w' ∧ RVS 990 (lineLen (fun n => fillsS n rule) (edgesL L) lo.q hi.q y) v w' := by
  obtain ⟨A, m, c, M, rfl, h1, h2, h3, h4, ms, h5, h6⟩ := h
  have hap : Apart (M.map spOf) := by rw [h6]; exact Go.TA.spans_apart h5
  have hq := Go.TA.lineLen_of (fills := fun n => fillsS n rule) (lo := lo.q) (hi := hi.q) h5
  rw [← h6] at hq
  have hsz : Sz 990 (Go.TA.lenS lo.q hi.q (M.map spOf)) := by
    refine (Sz.lenS19 (k := 25) (s1.mono (by omega)) (s2.mono (by omega)) (fun s hs => ?_) (by rw [List.length_map]; omega)).mono (by omega)
    obtain ⟨x, hx, rfl⟩ := List.mem_map.1 hs
    exact (h4 x hx).2
  rw [← hq]
  refine (Length_any h1 h2 h3 h4 (by omega) (by omega) hap hlo hhi s1 s2 hle).mono ?_
  rintro e w' ⟨v, rfl, hE, hv⟩
  exact ⟨v, rfl, hE, hv, hsz⟩
/-- what the band adds -/
def BandPost (w : World) (bs : Nat) (L : List (List P2)) (rule : Int) (lo hi u v s : Rat) (ks : Nat) (e : Ending) (w' : World) : Prop :=
  e = .returned (.tuple #[]) ∧ But bs w w' ∧ DigKeep w w' ∧ ∃ p : RQ, Box w' bs 29 #[.bool p.b, .slice p.A p.n p.c, .bool p.b', .slice p.A' p.n' p.c'] ∧ p.At w' ∧
    p.q = s + lineLen (fun n => fillsS n rule) (edgesL L) lo hi ((u + v) / 2) * (v - u) ∧ Sz (ks + 1006) p.q
set_option maxRecDepth 100000 in
set_option maxHeartbeats 1600000 in
theorem band_any {w : World} {bl br bf bt bs ks n c : Nat} {A : Option Addr} {L : List (List P2)} {rule : Int} {lo hi u v sq : RQ} (hS : lenS L ≤ 19) (hLn : L.length ≤ 1000) (hv : validL L = true) (hn : L.length = n) (hL : RingsAt w A L)
    (xl : Box w bl 22 #[.slice A n c]) (xr : Box w br 3 #[.int .i64 rule]) (xf : Box w bf 29 #[.bool lo.b, .slice lo.A lo.n lo.c, .bool lo.b', .slice lo.A' lo.n' lo.c'])
    (xt : Box w bt 29 #[.bool hi.b, .slice hi.A hi.n hi.c, .bool hi.b', .slice hi.A' hi.n' hi.c']) (xs : Box w bs 29 #[.bool sq.b, .slice sq.A sq.n sq.c, .bool sq.b', .slice sq.A' sq.n' sq.c'])
    (hlo : lo.At w) (hhi : hi.At w) (hu : u.At w) (hv' : v.At w) (hs : sq.At w) (s1 : Sz 2 lo.q) (s2 : Sz 2 hi.q) (su : Sz 7 u.q) (sv : Sz 7 v.q) (ss : Sz ks sq.q) (hks : ks ≤ 50000000) (hle : lo.q ≤ hi.q) :
    Calls Tryz.prog 39 #[.agg #[.bool u.b, .slice u.A u.n u.c, .bool u.b', .slice u.A' u.n' u.c'], .agg #[.bool v.b, .slice v.A v.n v.c, .bool v.b', .slice v.A' v.n' v.c'], .pointer (some ⟨bl, 0, none⟩), .pointer (some ⟨br, 0, none⟩), .pointer (some ⟨bf, 0, none⟩), .pointer (some ⟨bt, 0, none⟩), .pointer (some ⟨bs, 0, none⟩)] w
      (BandPost w bs L rule lo.q hi.q u.q v.q sq.q ks) := by
  obtain ⟨O1, hO1⟩ : ∃ O, O = Obj.cells #[.bool u.b, .slice u.A u.n u.c, .bool u.b', .slice u.A' u.n' u.c'] 29 := ⟨_, rfl⟩
  obtain ⟨O2, hO2⟩ : ∃ O, O = Obj.cells #[.bool v.b, .slice v.A v.n v.c, .bool v.b', .slice v.A' v.n' v.c'] 29 := ⟨_, rfl⟩
  have hE := (Ext.alloc w O1).trans (Ext.alloc _ O2)
  have x7 := (Box.new w 29 #[.bool u.b, .slice u.A u.n u.c, .bool u.b', .slice u.A' u.n' u.c']).alloc O2
  have x8 := Box.at1 (w := w) (o := O1) (t := 29) (cs := #[.bool v.b, .slice v.A v.n v.c, .bool v.b', .slice v.A' v.n' v.c'])
  rw [← hO1] at x7
  rw [← hO2] at x8
  rw [hO1, hO2] at hE x7 x8
  clear hO1 hO2
  have HMID := Lib.hid (fun W (hW : Ext w W) => midR (hu.ext hW).rv (hv'.ext hW).rv su sv (by omega))
  have hmz : Sz 15 ((u.q + v.q) / 2) := (su.mid sv).mono (by omega)
  have HSP := Lib.hid (fun W x (hW : Ext w W) (hx : RV W x ((u.q + v.q) / 2)) => (Spans_any L A c rule W hS hLn hv (hL.ext hW) hx hmz (by omega)).mono fun e w' h => SpansV.of h)
  have HLEN := Lib.hid (fun W x (hW : Ext w W) (hx : SpansV L rule ((u.q + v.q) / 2) 25 x W) => Length_of hx (hlo.ext hW) (hhi.ext hW) s1 s2 hle)
  have HSUB := Lib.hid (fun W (hW : Ext w W) => subR (hv'.ext hW).rv (hu.ext hW).rv sv su (by omega))
  have hsz : Sz 15 (v.q - u.q) := (sv.sub su).mono (by omega)
  generalize hmq : (u.q + v.q) / 2 = mid at *
  generalize hdq : v.q - u.q = dq at *
  obtain ⟨long, hlong⟩ : ∃ long, long = lineLen (fun n => fillsS n rule) (edgesL L) lo.q hi.q mid := ⟨_, rfl⟩
  rw [← hlong] at HLEN
  have HMUL := Lib.hid (fun W x y (hx : RVS 990 long x W) (hy : RV W y dq) => mulR hx.1 hy hx.2 hsz (by omega))
  have HADD := Lib.hid (fun W y (hl : Sz 990 long) (hW : Ext w W) (hy : RV W y (long * dq)) => addR (hs.ext hW).rv hy ss (hl.mul hsz) (by omega))
  have HPOST : Hid (∀ e w', (e = .returned (.tuple #[]) ∧ But bs w w' ∧ DigKeep w w' ∧ ∃ p : RQ, Box w' bs 29 #[.bool p.b, .slice p.A p.n p.c, .bool p.b', .slice p.A' p.n' p.c'] ∧ p.At w' ∧ p.q = sq.q + long * dq ∧ Sz 990 long) → BandPost w bs L rule lo.q hi.q u.q v.q sq.q ks e w') := Lib.hid (by
    rintro e w' ⟨h1, h2, h3, p, h4, h5, h6, h7⟩
    refine ⟨h1, h2, h3, p, h4, h5, ?_, ?_⟩
    · rw [hmq, hdq, ← hlong]; exact h6
    · rw [h6]; exact (ss.add (h7.mul hsz)).mono (by omega))
  rw [hn] at HSP
  unfold RQ.v at HMID HSUB HADD
  clear hmq hdq hlong hsz hmz hS hLn hv hn hL hlo hhi hu hv' hs s1 s2 su sv ss hle
  have xlE := xl.ext hE
  have xrE := xr.ext hE
  have xfE := xf.ext hE
  have xtE := xt.ext hE
  go_enter Tryz.func39, Tryz.ntmps39
  go_wp2_with fail
  apply wp_region_par' 10 (by kernel_rfl) (by kernel_rfl) rfl
  simp only [List.take_succ_cons, List.take_zero, List.drop_succ_cons, List.drop_zero]
  generalize hW : World.drew _ = W
  have hEW := Ext.of_drew hE hW
  replace x7 := Box.of_drew x7 hW
  replace x8 := Box.of_drew x8 hW
  clear hW xlE xrE xfE xtE hE
  have z7 := x7.lcell
  have z8 := x8.lcell
  have zl := (xl.ext hEW).lcell
  have zr := (xr.ext hEW).lcell
  have zf := (xf.ext hEW).lcell
  have zt := (xt.ext hEW).lcell
  iterate 4
    refine parW_step rfl (fun K hK => ?_)
    apply Exists.intro
    refine ⟨fun z => ?_, ?_⟩
    focus
      go_simp
      first
        | rfl
        | fail
    go_simp
    refine hK _ ?_
    clear hK K
  refine parW_rel rfl (RV.stable mid) (fun z => ?_) ?_
  · have hc := HMID.out z.val (hEW.later z)
    simp only [Giv]
    go_simp
    exact calls_rel hc
  refine parW_rel rfl (SpansV.stable L rule mid 25) (fun z => ?_) ?_
  · intro va hva
    have k1 := hva (show Nat.testBit _ _ = true from by kernel_rfl)
    have hc := HSP.out z.val _ (hEW.later z) k1
    simp only [Giv]
    go_simp
    exact calls_rel hc
  iterate 2
    refine parW_step rfl (fun K hK => ?_)
    apply Exists.intro
    refine ⟨fun z => ?_, ?_⟩
    focus
      go_simp
      first
        | rfl
        | fail
    go_simp
    refine hK _ ?_
    clear hK K
  refine parW_rel rfl (RVS.stable 990 long) (fun z => ?_) ?_
  · intro va hva vb hvb
    have k2 := hvb (show Nat.testBit _ _ = true from by kernel_rfl)
    have hc := HLEN.out z.val _ (hEW.later z) k2
    simp only [Giv]
    go_simp
    exact calls_rel hc
  refine parW_new (t := 29) (cs := #[.bool false, .slice none 0 0, .bool false, .slice none 0 0]) rfl rfl rfl (by simp) (fun w1 => by kernel_rfl) ?_
  refine parW_fin (fun z => ?_)
  rintro va oa vb ob vc ⟨oc, hls⟩ vd ⟨g9, rfl, h9, v9⟩ hp
  simp only [Act.put, List.setIfInBounds_toArray, List.set_cons_succ, List.set_cons_zero]
  obtain ⟨p, rfl, hpq, hpa⟩ := RV.rq oc
  have hEz := hEW.later z
  have hs0 := hEW.size
  obtain ⟨Y, hY, hbY, hdY, hbx⟩ := put_rat v9 p
  have hEY := hEz.but hbY (by omega)
  have l7 := x7.lt
  have l8 := x8.lt
  have ls := xs.lt
  have y7 := hbY.box (x7.ext z.prop) (by omega)
  have y8 := hbY.box (x8.ext z.prop) (by omega)
  have ys := hbY.box (xs.ext hEz) (by omega)
  have HP := Lib.hid (show p.At Y ∧ p.q = long ∧ Sz 990 long from ⟨hpa.dk hdY, hpq, hls⟩)
  have HY := Lib.hid hY
  have f9 := v9.frozen
  have c9 := v9.cell
  have k9 := hbx.cell
  rw [← hY] at k9
  unfold RQ.v
  clear hY hbY hdY oa ob oc hp hpa hpq hls z7 z8 zl zr zf zt v9 x7 x8 xl xr xf xt xs HMID HSP HLEN hEz hs0 h9
  generalize z.val = Z at *
  clear z hEW
  go_wp2_with fail
  rw [HY.out] at k9 ⊢
  clear HY f9 c9 k9
  apply wp_region_par' 7 (by kernel_rfl) (by kernel_rfl) rfl
  simp only [List.take_succ_cons, List.take_zero, List.drop_succ_cons, List.drop_zero]
  generalize hW : World.drew _ = W2
  have hEW2 := (Ext.of_drew (Ext.refl Y) hW)
  clear hW
  have hE2 := hEY.trans hEW2
  have z7 := (y7.ext hEW2).lcell
  have z8 := (y8.ext hEW2).lcell
  have z9 := (hbx.ext hEW2).lcell
  have zs := (ys.ext hEW2).lcell
  iterate 4
    refine parW_step rfl (fun K hK => ?_)
    apply Exists.intro
    refine ⟨fun z => ?_, ?_⟩
    focus
      go_simp
      first
        | rfl
        | fail
    go_simp
    refine hK _ ?_
    clear hK K
  refine parW_rel rfl (RV.stable dq) (fun z => ?_) ?_
  · have hc := HSUB.out z.val (hE2.later z)
    simp only [Giv]
    go_simp
    exact calls_rel hc
  refine parW_rel rfl (RV.stable (long * dq)) (fun z => ?_) ?_
  · intro va hva
    have k1 := hva (show Nat.testBit _ _ = true from by kernel_rfl)
    have hrvs : RVS 990 long (.agg #[.bool p.b, .slice p.A p.n p.c, .bool p.b', .slice p.A' p.n' p.c']) z.val := ⟨by rw [← HP.out.2.1]; exact (HP.out.1.ext (hEW2.later z)).rv, HP.out.2.2⟩
    have hc := HMUL.out z.val _ _ hrvs k1
    clear hrvs
    simp only [Giv]
    go_simp
    exact calls_rel hc
  refine parW_rel rfl (RV.stable (sq.q + long * dq)) (fun z => ?_) ?_
  · intro va hva vb hvb
    have k2 := hvb (show Nat.testBit _ _ = true from by kernel_rfl)
    have hc := HADD.out z.val _ HP.out.2.2 (hE2.later z) k2
    unfold RQ.v at hc
    simp only [Giv]
    go_simp
    exact calls_rel hc
  refine parW_fin (fun z => ?_)
  rintro va oa vb ob vc oc hp
  simp only [Act.put, List.setIfInBounds_toArray, List.set_cons_succ, List.set_cons_zero]
  obtain ⟨r, rfl, hrq, hra⟩ := RV.rq oc
  have hEz := hE2.later z
  have ysz := ys.ext (hEW2.later z)
  obtain ⟨Y2, hY, hbY, hdY, hbx2⟩ := put_rat ysz r
  have HY := Lib.hid hY
  have fs := ysz.frozen
  have cs := ysz.cell
  have HR := Lib.hid (show r.At Y2 ∧ r.q = sq.q + long * dq from ⟨hra.dk hdY, hrq⟩)
  have hbut := (But.of_ext hEz).trans hbY
  have hdig := (DigKeep.ext hEz).trans hdY
  unfold RQ.v
  clear hY hbY hdY oa ob oc hp hra hrq z7 z8 z9 zs y7 y8 ys hbx HSUB HMUL HADD hEz ysz
  generalize z.val = Z2 at *
  clear z hEW2 hE2
  go_wp2_with fail
  rw [HY.out]
  go_end0
  exact HPOST.out _ _ ⟨rfl, hbut, hdig, r, hbx2, HR.out.1, HR.out.2, HP.out.2.2⟩
end Go.Proofs.YtodefmfgoehkhaaGreat

/- area.fits, area.InBox. -/
set_option linter.unusedVariables false
set_option linter.unusedSimpArgs false
namespace Go.Proofs.YtodefmfgoehkhaaGreat
open Go.RowKit Go.Par Go.Shelf Go.TN Go.Lib
open Go.TA (E2 IntR lineLen Events AreaOf)

set_option maxHeartbeats 400000 in
theorem fits_any (L : List (List P2)) (A : Option Addr) (c : Nat) {rule : Int} (w : World) (hLn : L.length ≤ 1000) (hv : validL L = true) (hL : RingsAt w A L) (hr : rule = 1 ∨ rule = 2) :
    Calls Tryz.prog 16 #[.slice A L.length c, .int .i64 rule] w fun e w' => e = .returned (.int .i64 0) ∧ Ext w w' := by
  have HV := Lib.hid (Valid_any L A c w (by omega) hL)
  rw [hv] at HV
  generalize L.length = n at *
  clear hv hL
  go_enter Tryz.func16, Tryz.ntmps16
  go_wp2_with fail
  refine HV.out.mono ?_
  rintro e w1 ⟨rfl, hE⟩
  clear HV
  rcases hr with rfl | rfl
  · go_wp2
    go_ret
    exact ⟨rfl, hE⟩
  · go_wp2
    go_ret
    exact ⟨rfl, hE⟩
/-- what InBox hands back -/
def BoxPost (w : World) (L : List (List P2)) (rule : Int) (a b : P2) (e : Ending) (w' : World) : Prop :=
  ∃ v S, e = .returned (.tuple #[v, .int .i64 0]) ∧ Ext w w' ∧ RV w' v S ∧ Sz 503100 S ∧ AreaOf (fun n => fillsS n rule) (edgesL L) a.1 a.2 b.1 b.2 S
/-- what has been added up ahead of the band j -/
def SumI (L : List (List P2)) (rule : Int) (a b : P2) (hs : List Rat) (j : Nat) (q : Rat) : Prop :=
  (a.2 < b.2 → ∃ u, hs[j]? = some u ∧ IntR (lineLen (fun n => fillsS n rule) (edgesL L) (a.1 : Rat) (b.1 : Rat)) (a.2 : Rat) u q) ∧ (b.2 ≤ a.2 → q = 0)
theorem SumI.start {L : List (List P2)} {rule : Int} {a b : P2} {hs : List Rat} (h : a.2 < b.2 → Events (edgesL L) a.1 a.2 b.1 b.2 hs) : SumI L rule a b hs 0 0 :=
  ⟨fun hlt => ⟨(a.2 : Rat), by have := (h hlt).first; rwa [List.head?_eq_getElem?] at this, IntR.nil _⟩, fun _ => rfl⟩
theorem SumI.step {L : List (List P2)} {rule : Int} {a b : P2} {hs : List Rat} {j : Nat} {u v q : Rat} (h : SumI L rule a b hs j q) (he : a.2 < b.2 → Events (edgesL L) a.1 a.2 b.1 b.2 hs) (hx : a.1 ≤ b.1) (hab : a.2 < b.2) (hu : hs[j]? = some u) (hv : hs[j + 1]? = some v) :
    SumI L rule a b hs (j + 1) (q + lineLen (fun n => fillsS n rule) (edgesL L) (a.1 : Rat) (b.1 : Rat) ((u + v) / 2) * (v - u)) := by
  refine ⟨fun hlt => ⟨v, hv, ?_⟩, fun hle => by omega⟩
  obtain ⟨u', hu', hI⟩ := h.1 hlt
  rw [hu] at hu'
  injection hu' with hu'
  subst hu'
  exact (he hlt).step hx _ hu hv hI
theorem SumI.done {L : List (List P2)} {rule : Int} {a b : P2} {hs : List Rat} {j : Nat} {q : Rat} (h : SumI L rule a b hs j q) (he : a.2 < b.2 → Events (edgesL L) a.1 a.2 b.1 b.2 hs) (hx : a.1 < b.1) (hj : ¬ j + 1 < hs.length) :
    AreaOf (fun n => fillsS n rule) (edgesL L) a.1 a.2 b.1 b.2 q := by
  unfold AreaOf
  rcases Int.lt_or_le a.2 b.2 with hlt | hle
  · rw [if_neg (by omega)]
    obtain ⟨u, hu, hI⟩ := h.1 hlt
    have hl := (he hlt).last
    rw [List.getLast?_eq_getElem?] at hl
    have hjl := (List.getElem?_eq_some_iff.1 hu).1
    rw [show hs.length - 1 = j by omega, hu] at hl
    injection hl with hl
    rw [← hl]
    exact hI
  · rw [if_pos (.inr hle)]
    exact h.2 hle
theorem band_enter (args : Array Value) (w : World) : (callFunc 39 args).run Tryz.prog w = .ok (.enter 39 args) w := enters_of Tryz.func39 (by kernel_rfl) rfl _ _
set_option maxRecDepth 100000 in
set_option maxHeartbeats 1600000 in
theorem InBox_any (L : List (List P2)) (A : Option Addr) (c : Nat) {rule : Int} {a1 a2 b1 b2 : Int} (w : World) (hS : lenS L ≤ 18) (hLn : L.length ≤ 1000) (hv : validL L = true) (hL : RingsAt w A L) (hr : rule = 1 ∨ rule = 2) (ha : InC (a1, a2)) (hb : InC (b1, b2)) :
    Calls Tryz.prog 19 #[.slice A L.length c, .int .i64 rule, .agg #[.int .i64 a1, .int .i64 a2], .agg #[.int .i64 b1, .int .i64 b2]] w (BoxPost w L rule (a1, a2) (b1, b2)) := by
  obtain ⟨n, hn⟩ : ∃ n, n = L.length := ⟨_, rfl⟩
  have HFI := Lib.hid (fun W (hW : Ext w W) => fits_any L A c W hLn hv (hL.ext hW) hr)
  have HEV := Lib.hid (fun W (hW : Ext w W) => EventYs_any L A c (a1, a2) (b1, b2) W hS hLn hv (hL.ext hW) ha hb)
  have HFX := Lib.hid (show lenS L ≤ 19 ∧ L.length ≤ 1000 ∧ validL L = true ∧ L.length = n ∧ RingsAt w A L from ⟨by omega, hLn, hv, hn.symm, hL⟩)
  have va := ha.valid
  have vb := hb.valid
  have HVA := Lib.hid (fun W => valid_any a1 a2 W)
  have HVB := Lib.hid (fun W => valid_any b1 b2 W)
  rw [va] at HVA
  rw [vb] at HVB
  rw [← hn] at HFI HEV ⊢
  have HIA := Lib.hid ha
  have HIB := Lib.hid hb
  unfold ptV at HEV
  dsimp only at HEV
  obtain ⟨O4, hO4⟩ : ∃ O, O = Obj.cells #[.slice A n c] 22 := ⟨_, rfl⟩
  obtain ⟨O5, hO5⟩ : ∃ O, O = Obj.cells #[.int .i64 rule] 3 := ⟨_, rfl⟩
  obtain ⟨O6, hO6⟩ : ∃ O, O = Obj.cells #[.int .i64 a1, .int .i64 a2] 49 := ⟨_, rfl⟩
  obtain ⟨O7, hO7⟩ : ∃ O, O = Obj.cells #[.int .i64 b1, .int .i64 b2] 49 := ⟨_, rfl⟩
  obtain ⟨O8, hO8⟩ : ∃ O, O = Obj.cells #[.bool false, .slice none 0 0, .bool false, .slice none 0 0] 29 := ⟨_, rfl⟩
  have hE := ((((Ext.alloc w O4).trans (Ext.alloc _ O5)).trans (Ext.alloc _ O6)).trans (Ext.alloc _ O7)).trans (Ext.alloc _ O8)
  have x4 := ((((Box.new w 22 #[.slice A n c]).alloc O5).alloc O6).alloc O7).alloc O8
  have x5 := (((Box.at1 (w := w) (o := O4) (t := 3) (cs := #[.int .i64 rule])).alloc O6).alloc O7).alloc O8
  have x6 := ((Box.at2 (w := w) (o := O4) (o' := O5) (t := 49) (cs := #[.int .i64 a1, .int .i64 a2])).alloc O7).alloc O8
  have x7 := (Box.at3 (w := w) (o := O4) (o' := O5) (o'' := O6) (t := 49) (cs := #[.int .i64 b1, .int .i64 b2])).alloc O8
  have x8 := Box.newAt (w := (((w.alloc O4).alloc O5).alloc O6).alloc O7) (t := 29) (cs := #[.bool false, .slice none 0 0, .bool false, .slice none 0 0]) (b := w.heap.size + 1 + 1 + 1 + 1) (by simp)
  rw [← hO4] at x4
  rw [← hO5] at x5
  rw [← hO6] at x6
  rw [← hO7] at x7
  rw [← hO8] at x8
  rw [hO4, hO5, hO6, hO7, hO8] at hE x4 x5 x6 x7 x8
  clear hO4 hO5 hO6 hO7 hO8 va vb hS hLn hv hL hr hn ha hb
  go_enter Tryz.func19, Tryz.ntmps19
  go_wp2_with fail
  refine (HFI.out _ hE).mono ?_
  rintro e w1 ⟨rfl, hE1⟩
  replace hE := hE.trans hE1
  replace x4 := x4.ext hE1
  replace x5 := x5.ext hE1
  replace x6 := x6.ext hE1
  replace x7 := x7.ext hE1
  replace x8 := x8.ext hE1
  have c6 := x6.cell
  clear hE1 HFI
  go_wp2_with fail
  refine (HVA.out _).mono ?_
  rintro e w2 ⟨rfl, hE1⟩
  replace hE := hE.trans hE1
  replace x4 := x4.ext hE1
  replace x5 := x5.ext hE1
  replace x6 := x6.ext hE1
  replace x7 := x7.ext hE1
  replace x8 := x8.ext hE1
  clear c6
  have c7 := x7.cell
  clear hE1 HVA
  go_wp2_with fail
  refine (HVB.out _).mono ?_
  rintro e w3 ⟨rfl, hE1⟩
  replace hE := hE.trans hE1
  replace x4 := x4.ext hE1
  replace x5 := x5.ext hE1
  replace x6 := x6.ext hE1
  replace x7 := x7.ext hE1
  replace x8 := x8.ext hE1
  clear c7 hE1 HVB
  go_wp2_with fail
  refine (fromIntV 0 _ (by omega) (by omega)).mono ?_
  rintro e w4 ⟨v, rfl, hE1, hv⟩
  obtain ⟨z0, rfl, hz0, hza⟩ := hv.rq
  have hEA := Ext.alloc w4 (.cells #[.bool z0.b, .slice z0.A z0.n z0.c, .bool z0.b', .slice z0.A' z0.n' z0.c'] 29)
  have x11 := Box.new w4 29 #[.bool z0.b, .slice z0.A z0.n z0.c, .bool z0.b', .slice z0.A' z0.n' z0.c']
  have hE2 := hE1.trans hEA
  have h48 := (x8.ext hE1).lt
  replace hE := hE.trans hE2
  replace x4 := x4.ext hE2
  replace x5 := x5.ext hE2
  replace x6 := x6.ext hE2
  replace x7 := x7.ext hE2
  replace x8 := x8.ext hE2
  replace hza := hza.ext hEA
  have c6 := x6.cell
  have c7 := x7.cell
  unfold RQ.v
  clear hE1 hEA hE2 hv
  by_cases hle : b1 ≤ a1
  · have d1 : (b1 ≤ a1) = True := eq_true hle
    obtain ⟨Y, hY, hbY, hdY, hbx⟩ := put_rat x8 z0
    have hEY := hE.but hbY (by omega)
    have HR := Lib.hid (show RV Y (.agg #[.bool z0.b, .slice z0.A z0.n z0.c, .bool z0.b', .slice z0.A' z0.n' z0.c']) 0 from by have := (hza.dk hdY).rv; rwa [hz0] at this)
    have HY := Lib.hid hY
    have c8 := x8.cell
    have f8 := x8.frozen
    have c11 := x11.cell
    have k8 := hbx.cell
    rw [← hY] at k8
    have HARE := Lib.hid (show AreaOf (fun n => fillsS n rule) (edgesL L) a1 a2 b1 b2 0 from by unfold AreaOf; rw [if_pos (.inl hle)])
    have hn8 : ¬ w.heap.size + 1 + 1 + 1 + 1 = w4.heap.size := by omega
    have hn8' : ¬ w4.heap.size = w.heap.size + 1 + 1 + 1 + 1 := by omega
    clear hY hbY hdY hbx hza hz0 hle h48
    go_wp2
    rw [HY.out] at k8 ⊢
    exact bodyPost_ret (v := .tuple #[.agg #[.bool z0.b, .slice z0.A z0.n z0.c, .bool z0.b', .slice z0.A' z0.n' z0.c'], .int .i64 0]) (by simp [results, Tryz.results19, go_sem, k8]) rfl ⟨_, 0, rfl, hEY, HR.out, (Sz.coord (z := 0) (by omega) (by omega)).mono (by omega), HARE.out⟩
  · have d1 : (b1 ≤ a1) = False := eq_false hle
    have hlt1 : a1 ≤ b1 := by omega
    have HLT := Lib.hid (show a1 < b1 by omega)
    have s1 : Sz 2 (a1 : Rat) := Sz.coord (by have := HIA.out.1; simp only at this; omega) (by have := HIA.out.2.1; simp only at this; omega)
    have s2 : Sz 2 (b1 : Rat) := Sz.coord (by have := HIB.out.1; simp only at this; omega) (by have := HIB.out.2.1; simp only at this; omega)
    have hrle : (a1 : Rat) ≤ (b1 : Rat) := Rat.intCast_le_intCast.2 hlt1
    go_wp2_with fail
    apply wp_region_par' 8 (by kernel_rfl) (by kernel_rfl) rfl
    simp only [List.take_succ_cons, List.take_zero, List.drop_succ_cons, List.drop_zero]
    generalize hW : World.drew _ = W
    have hEW := Ext.of_drew (Ext.refl _) hW
    clear hW
    have z6 := (x6.ext hEW).lcell
    have z7 := (x7.ext hEW).lcell
    have HF1 := Lib.hid (fun W => fromIntV a1 W (by have := HIA.out.1; simp only at this; omega) (by have := HIA.out.2.1; simp only at this; omega))
    have HF2 := Lib.hid (fun W => fromIntV b1 W (by have := HIB.out.1; simp only at this; omega) (by have := HIB.out.2.1; simp only at this; omega))
    iterate 2
      refine parW_step rfl (fun K hK => ?_)
      apply Exists.intro
      refine ⟨fun z => ?_, ?_⟩
      focus
        go_simp
        first
          | rfl
          | fail
      go_simp
      refine hK _ ?_
      clear hK K
    refine parW_rel rfl (RV.stable (a1 : Rat)) (fun x => ?_) ?_
    · have hc := HF1.out x.val
      simp only [Giv]
      go_simp
      exact calls_rel hc
    iterate 2
      refine parW_step rfl (fun K hK => ?_)
      apply Exists.intro
      refine ⟨fun z => ?_, ?_⟩
      focus
        go_simp
        first
          | rfl
          | fail
      go_simp
      refine hK _ ?_
      clear hK K
    refine parW_rel rfl (RV.stable (b1 : Rat)) (fun x => ?_) ?_
    · intro va hva
      have hc := HF2.out x.val
      simp only [Giv]
      go_simp
      exact calls_rel hc
    refine parW_new (t := 29) (cs := #[.bool false, .slice none 0 0, .bool false, .slice none 0 0]) rfl rfl rfl (by simp) (fun w1 => by kernel_rfl) ?_
    refine parW_new (t := 29) (cs := #[.bool false, .slice none 0 0, .bool false, .slice none 0 0]) rfl rfl rfl (by simp) (fun w1 => by kernel_rfl) ?_
    refine parW_fin (fun z => ?_)
    rintro v1 o1 v2 o2 v3 ⟨g12, rfl, h12, y12⟩ v4 ⟨g13, rfl, h13, y13⟩ hp
    have n1213 : g12 ≠ g13 := by simpa [blockOf] using hp
    simp only [Act.put, List.setIfInBounds_toArray, List.set_cons_succ, List.set_cons_zero]
    have hEz := hEW.later z
    have hs0 := hEW.size
    have l11 := x11.lt
    obtain ⟨p1, P1, p2, p3, p1', P1', p2', p3', r1, R1, r2, r3, r1', R1', r2', r3', Z', rfl, rfl, hZ, hE', q12, q13, j12, j13, hbx⟩ := two_putR (w := w4.alloc (.cells #[.bool z0.b, .slice z0.A z0.n z0.c, .bool z0.b', .slice z0.A' z0.n' z0.c'] 29)) n1213 y12 y13 hEz (by omega) (by omega) o1 o2
    have HZ := Lib.hid hZ
    have f12 := y12.frozen
    have f13 := y13.frozen
    have e12 := y12.cell
    have e13 := y13.cell
    have hE2 := hE.trans hE'
    replace x4 := x4.ext hE'
    replace x5 := x5.ext hE'
    replace x6 := x6.ext hE'
    replace x7 := x7.ext hE'
    replace x8 := x8.ext hE'
    replace x11 := x11.ext hE'
    replace hza := hza.ext hE'
    have m12 : w4.heap.size < g12 := by omega
    have m13 : w4.heap.size < g13 := by omega
    clear l11
    clear hbx hZ hp o1 o2 z6 z7 HF1 HF2 y12 y13 hE' hEz hE c6 c7 h12 h13 hs0
    generalize z.val = Z at *
    clear z hEW
    obtain ⟨lo, hlo⟩ : ∃ lo : RQ, lo = ⟨p1, P1, p2, p3, p1', P1', p2', p3', (a1 : Rat)⟩ := ⟨_, rfl⟩
    obtain ⟨hi, hhi⟩ : ∃ lo : RQ, lo = ⟨r1, R1, r2, r3, r1', R1', r2', r3', (b1 : Rat)⟩ := ⟨_, rfl⟩
    have hla : lo.At Z' := by subst hlo; exact j12
    have hha : hi.At Z' := by subst hhi; exact j13
    have hlq : lo.q = (a1 : Rat) := by subst hlo; rfl
    have hhq : hi.q = (b1 : Rat) := by subst hhi; rfl
    have y12 : Box Z' g12 29 #[.bool lo.b, .slice lo.A lo.n lo.c, .bool lo.b', .slice lo.A' lo.n' lo.c'] := by subst hlo; exact q12
    have y13 : Box Z' g13 29 #[.bool hi.b, .slice hi.A hi.n hi.c, .bool hi.b', .slice hi.A' hi.n' hi.c'] := by subst hhi; exact q13
    clear hlo hhi q12 q13 j12 j13
    go_upto_region 10 with fail
    rw [HZ.out]
    clear HZ f12 f13 e12 e13
    have c4 := x4.cell
    have c6 := x6.cell
    have c7 := x7.cell
    go_wp2_with fail
    refine (HEV.out _ hE2).mono ?_
    rintro e w5 ⟨v, l, rfl, hE3, hown, hl, hlen, hev, hno⟩
    have hsz5 := hE3.size
    have l12 := y12.lt
    have l13 := y13.lt
    have l11 := x11.lt
    have l8 := x8.lt
    replace hE2 := hE2.trans hE3
    replace x4 := x4.ext hE3
    replace x5 := x5.ext hE3
    replace x8 := x8.ext hE3
    replace x11 := x11.ext hE3
    replace y12 := y12.ext hE3
    replace y13 := y13.ext hE3
    replace hza := hza.ext hE3
    replace hla := hla.ext hE3
    replace hha := hha.ext hE3
    have HOWN := Lib.hid hown
    obtain ⟨m, hm⟩ : ∃ m, l.length = m := ⟨_, rfl⟩
    rw [hm] at hlen
    obtain ⟨Al, cl, rfl, hcl, hat⟩ := hown.own.at hm (by omega)
    generalize Z'.heap.size = B at *
    clear hE3 c4 c6 c7 x6 x7 HEV
    obtain ⟨b4, hb4⟩ : ∃ b, b = w.heap.size := ⟨_, rfl⟩
    obtain ⟨b5, hb5⟩ : ∃ b, b = w.heap.size + 1 := ⟨_, rfl⟩
    obtain ⟨b8, hb8⟩ : ∃ b, b = w.heap.size + 1 + 1 + 1 + 1 := ⟨_, rfl⟩
    obtain ⟨b11, hb11⟩ : ∃ b, b = w4.heap.size := ⟨_, rfl⟩
    have hn4 : b4 ≠ b11 := by omega
    have hn5 : b5 ≠ b11 := by omega
    have hn8 : b8 ≠ b11 := by omega
    have hn12 : g12 ≠ b11 := by omega
    have hn13 : g13 ≠ b11 := by omega
    have hw8 : w.heap.size ≤ b8 := by omega
    have hw11 : w.heap.size ≤ b11 := by omega
    have hB11 : b11 < B := by omega
    rw [← hb8] at x8 ⊢
    rw [← hb5] at x5 ⊢
    rw [← hb4] at x4 ⊢
    rw [← hb11] at x11 ⊢
    clear hb4 hb5 hb8 hb11 m12 m13 l12 l13 l11 l8 h48 hsz5
    have HM := Lib.hid hm
    have HAT := Lib.hid hat
    have HL := Lib.hid hl
    have HEVS := Lib.hid hev
    have HNO := Lib.hid hno
    have HLEN := Lib.hid hlen
    clear hm hat hl hev hno hown
    go_wp2_with fail
    go_loopw [16] (fun i wr => ∃ (j : Nat) (sq : RQ), j ≤ m ∧ i = .int .i64 j ∧ But b11 w5 wr ∧ DigKeep w5 wr ∧ Box wr b11 29 #[.bool sq.b, .slice sq.A sq.n sq.c, .bool sq.b', .slice sq.A' sq.n' sq.c'] ∧ Hid (sq.At wr ∧ SumI L rule (a1, a2) (b1, b2) (l.map (·.q)) j sq.q ∧ Sz (2 + 1006 * j) sq.q)) (fun i _ => m - (intOf i).toNat)
    case atStart => exact ⟨0, z0, by omega, rfl, But.refl _ _, DigKeep.refl _, x11, Lib.hid ⟨hza, by rw [hz0]; exact SumI.start HEVS.out, by rw [hz0]; exact Sz.coord (z := 0) (by omega) (by omega)⟩⟩
    case round =>
      obtain ⟨j, sq, hj, rfl, hbut, hdig, y11, HQ⟩ := hrel
      obtain ⟨j', hj'⟩ : ∃ j', j' = j + 1 := ⟨_, rfl⟩
      have w1' : IntKind.i64.wrap ((j : Int) + 1) = (j' : Int) := (IntWalk.i64_in _ (by omega)).trans (by omega)
      by_cases hlt : j' < m
      · obtain ⟨u, hu⟩ : ∃ x, l[j]? = some x := ⟨_, List.getElem?_eq_getElem (by rw [HM.out]; omega)⟩
        obtain ⟨v, hv⟩ : ∃ x, l[j']? = some x := ⟨_, List.getElem?_eq_getElem (by rw [HM.out]; omega)⟩
        have hown := HOWN.out.but hbut (fun e => by have := (HOWN.out.lt e).1; omega)
        obtain ⟨g, cap, e, _, _⟩ := hown.own.head (by rw [HM.out]; omega)
        simp only [Value.slice.injEq] at e
        obtain ⟨rfl, hme, rfl⟩ := e
        clear hme
        obtain ⟨⟨u0, u1⟩, u2, u3⟩ := own_rat hown hu
        obtain ⟨⟨v0, v1⟩, v2, v3⟩ := own_rat hown hv
        obtain ⟨ua, us⟩ := HL.out u (List.mem_of_getElem? hu)
        obtain ⟨va, vs⟩ := HL.out v (List.mem_of_getElem? hv)
        have UA := Lib.hid (ua.dk hdig)
        have VA := Lib.hid (va.dk hdig)
        have US := Lib.hid us
        have VS := Lib.hid vs
        have hab : a2 < b2 := by
          rcases Int.lt_or_le a2 b2 with h | h
          · exact h
          · have := HNO.out h
            rw [this] at hu
            simp at hu
        have HSTEP := Lib.hid (HQ.out.2.1.step HEVS.out hlt1 hab (u := u.q) (v := v.q) (by rw [List.getElem?_map, hu]; rfl) (by rw [List.getElem?_map, ← hj', hv]; rfl))
        rw [← hj'] at HSTEP
        have HJ := Lib.hid hj'
        have d1 : ((j' : Int) < (m : Int)) = True := eq_true (by omega)
        have n0 : j < m := by omega
        have heg := band_enter
        clear hown ua us va vs hu hv hab hj'
        go_wp2_with fail
        apply wp_region_par' 10 (by kernel_rfl) (by kernel_rfl) rfl
        simp only [List.take_succ_cons, List.take_zero, List.drop_succ_cons, List.drop_zero]
        generalize hW : World.drew _ = W
        have hEW := Ext.of_drew (Ext.refl _) hW
        clear hW
        have e0 := fun z : Later W => z.cell (hEW.cell u0)
        have e1 := fun z : Later W => z.cell (hEW.cell u1)
        have e2 := fun z : Later W => z.cell (hEW.cell u2)
        have e3 := fun z : Later W => z.cell (hEW.cell u3)
        have e4 := fun z : Later W => z.cell (hEW.cell v0)
        have e5 := fun z : Later W => z.cell (hEW.cell v1)
        have e6 := fun z : Later W => z.cell (hEW.cell v2)
        have e7 := fun z : Later W => z.cell (hEW.cell v3)
        iterate 10
          refine parW_step rfl (fun K hK => ?_)
          apply Exists.intro
          refine ⟨fun z => ?_, ?_⟩
          focus
            go_simp
            first
              | rfl
              | fail
          go_simp
          refine hK _ ?_
          clear hK K
        refine parW_end (fun z => ?_)
        have hEz := hEW.later z
        clear e0 e1 e2 e3 e4 e5 e6 e7 u0 u1 u2 u3 v0 v1 v2 v3
        replace UA := Lib.hid (UA.out.ext hEz)
        replace VA := Lib.hid (VA.out.ext hEz)
        replace y11 := y11.ext hEz
        replace hbut := hbut.trans (But.of_ext hEz)
        replace hdig := hdig.trans (DigKeep.ext hEz)
        have ASQ := HQ.out.1.ext hEz
        generalize z.val = Z2 at *
        clear z hEW hEz
        have hEZ2 : Ext w Z2 := hE2.but hbut hw11
        have HBD := Lib.hid (band_any (w := Z2) (ks := 2 + 1006 * j) (c := c) (rule := rule) HFX.out.1 HFX.out.2.1 HFX.out.2.2.1 HFX.out.2.2.2.1 (HFX.out.2.2.2.2.ext hEZ2) (hbut.box x4 hn4) (hbut.box x5 hn5) (hbut.box y12 hn12) (hbut.box y13 hn13) y11 (hla.dk hdig) (hha.dk hdig) UA.out VA.out ASQ (by rw [hlq]; exact s1) (by rw [hhq]; exact s2) US.out VS.out HQ.out.2.2 (by have := HLEN.out; omega) (by rw [hlq, hhq]; exact hrle))
        clear ASQ y11 UA VA
        go_wp2_with fail
        refine HBD.out.mono ?_
        rintro e w6 ⟨rfl, hbut2, hdig2, p, hbx, hpa, hpq, hps⟩
        rw [hlq, hhq] at hpq
        have HQ2 := Lib.hid (show p.At w6 ∧ SumI L rule (a1, a2) (b1, b2) (l.map (·.q)) j' p.q ∧ Sz (2 + 1006 * j') p.q from ⟨hpa, by rw [hpq]; exact HSTEP.out, hps.mono (by have := HJ.out; omega)⟩)
        have hbut3 := hbut.trans hbut2
        have hdig3 := hdig.trans hdig2
        clear HBD hbut hdig hbut2 hdig2 hpa hpq hps HSTEP heg HQ
        go_wp2_with fail
        go_roundw
        case rel => exact ⟨j', p, by omega, (by first | rfl | go_num), hbut3, hdig3, hbx, HQ2⟩
        case measure => have := HJ.out; simp [intOf]; omega
      · have d1 : ((j' : Int) < (m : Int)) = False := eq_false (by omega)
        have HARE := Lib.hid (HQ.out.2.1.done HEVS.out HLT.out (by rw [List.length_map, HM.out]; omega))
        have HSZ := Lib.hid (show Sz 503100 sq.q from HQ.out.2.2.mono (by have := HLEN.out; omega))
        have y8 := hbut.box x8 hn8
        have hEf := hE2.but hbut hw11
        obtain ⟨Y, hY, hbY, hdY, hbx⟩ := put_rat y8 sq
        have hEY := hEf.but hbY hw8
        have HR := Lib.hid ((HQ.out.1.dk hdY).rv)
        unfold RQ.v at HR
        have HY := Lib.hid hY
        have c8 := y8.cell
        have f8 := y8.frozen
        have c11 := y11.cell
        have k8 := hbx.cell
        rw [← hY] at k8
        clear hlt hj' hY hbY hdY hbx y8 y11 hbut hdig hEf x4 x5 x8 x11 y12 y13
        go_wp2
        rw [HY.out] at k8 ⊢
        exact bodyPost_ret (v := .tuple #[.agg #[.bool sq.b, .slice sq.A sq.n sq.c, .bool sq.b', .slice sq.A' sq.n' sq.c'], .int .i64 0]) (by simp [results, Tryz.results19, go_sem, k8]) rfl ⟨_, _, rfl, hEY, HR.out, HSZ.out, HARE.out⟩
end Go.Proofs.YtodefmfgoehkhaaGreat

/- area.pixels, area.corner. -/
set_option linter.unusedVariables false
set_option linter.unusedSimpArgs false
namespace Go.Proofs.YtodefmfgoehkhaaGreat
open Go.RowKit Go.Par Go.Shelf Go.TN Go.Lib
open Go.TA (E2 IntR lineLen Events AreaOf)

set_option maxRecDepth 100000 in
set_option maxHeartbeats 1600000 in
theorem pixels_any {w : World} {v : Value} {S : Rat} (h : RV w v S) (hs : Sz 503100 S) :
    Calls Tryz.prog 18 #[v, .int .i64 0] w fun e w' => ∃ v', e = .returned (.tuple #[v', .int .i64 0]) ∧ Ext w w' ∧ RV w' v' (S / 65536) ∧ Sz 503110 (S / 65536) := by
  obtain ⟨p, rfl, hpq, hpa⟩ := h.rq
  have s65 : Sz 2 ((65536 : Int) : Rat) := Sz.coord (by omega) (by omega)
  have hne : ((65536 : Int) : Rat) ≠ 0 := Go.TA.castne (by omega)
  have e65 : ((65536 : Int) : Rat) = 65536 := rfl
  have hsz : Sz 503110 (S / 65536) := by rw [← e65]; exact (hs.quo s65 hne).mono (by omega)
  have HSZ := Lib.hid hsz
  have HQ := Lib.hid (fun W y (hW : Ext w W) (hy : RV W y ((65536 : Int) : Rat)) => quoR (hpa.ext hW).rv hy (by rw [hpq]; exact hs) s65 (by omega) hne)
  rw [hpq, e65] at HQ
  generalize S / 65536 = Q at *
  unfold RQ.v at HQ ⊢
  obtain ⟨O1, hO1⟩ : ∃ O, O = Obj.cells #[.bool p.b, .slice p.A p.n p.c, .bool p.b', .slice p.A' p.n' p.c'] 29 := ⟨_, rfl⟩
  obtain ⟨O2, hO2⟩ : ∃ O, O = Obj.cells #[.bool false, .slice none 0 0, .bool false, .slice none 0 0] 29 := ⟨_, rfl⟩
  have hEk := (Ext.alloc w O1).trans (Ext.alloc _ O2)
  have x2 := (Box.new w 29 #[.bool p.b, .slice p.A p.n p.c, .bool p.b', .slice p.A' p.n' p.c']).alloc O2
  have x4 := Box.at1 (w := w) (o := O1) (t := 29) (cs := #[.bool false, .slice none 0 0, .bool false, .slice none 0 0])
  rw [← hO1] at x2
  rw [← hO2] at x4
  rw [hO1, hO2] at hEk x2 x4
  have x2 := x2.drew
  have x4 := x4.drew
  have hEk := hEk.trans (Ext.drew _)
  have c2 := x2.cell
  have f2 := x2.frozen
  clear hO1 hO2 hne s65 hsz hs h hpa hpq
  go_enter Tryz.func18, Tryz.ntmps18
  go_wp2_with fail
  go_region_with (first
    | (go_at_call 8; refine (fromIntV _ _ (by omega) (by omega)).mono ?_; rintro e wa ⟨va, rfl, hEa, ga⟩; have x2 := x2.ext hEa; have x4 := x4.ext hEa; have hEk := hEk.trans hEa; have c2 := x2.cell; have f2 := x2.frozen)
    | (go_at_call 38; refine (HQ.out _ _ hEk ga).mono ?_; rintro e wb ⟨vb, rfl, hEb, gb⟩; have x2 := x2.ext hEb; have x4 := x4.ext hEb; have hEk := hEk.trans hEb; have c2 := x2.cell; have f2 := x2.frozen; obtain ⟨r, rfl, hrq, hra⟩ := RV.rq gb; unfold RQ.v))
  all_goals
    obtain ⟨Y, hY, hbY, hdY, hbx⟩ := put_rat x2 r
    have HY := Lib.hid hY
    have x4 := hbY.box x4 (by omega)
    have hEY := hEk.but hbY (by omega)
    have ra := hra.dk hdY
    obtain ⟨Y2, hY2, hbY2, hdY2, hbx2⟩ := put_rat x4 r
    have HY2 := Lib.hid hY2
    have hEY2 := hEY.but hbY2 (by omega)
    have HR := Lib.hid (show RV Y2 (.agg #[.bool r.b, .slice r.A r.n r.c, .bool r.b', .slice r.A' r.n' r.c']) Q from by rw [← hrq]; exact (ra.dk hdY2).rv)
    have k4 := hbx2.cell
    rw [← hY2] at k4
    have c2 := hbx.cell
    have c4 := x4.cell
    have f4 := x4.frozen
    clear hY hY2 hbY hdY hbx hbY2 hdY2 hbx2 ra hra hrq gb ga x2 x4 HQ hEY
    go_upto_region 4 with fail
    rw [HY.out]
    go_wp2
    rw [HY2.out] at k4 ⊢
    exact bodyPost_ret (v := .tuple #[.agg #[.bool r.b, .slice r.A r.n r.c, .bool r.b', .slice r.A' r.n' r.c'], .int .i64 0]) (by simp [results, Tryz.results18, go_sem, k4]) rfl ⟨_, rfl, hEY2, HR.out, HSZ.out⟩
end Go.Proofs.YtodefmfgoehkhaaGreat
