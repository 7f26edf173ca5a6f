/- Texts put together: TyM, TyN, TyO. -/
import Derived.Test.YtodefmfgoehkhaaGreatZU
/- area.corner, area.Pixel, area.Total. -/
set_option linter.unusedVariables false
set_option linter.unusedSimpArgs false
namespace Go.Proofs.YtodefmfgoehkhaaGreat
open Go.RowKit Go.Par Go.Shelf Go.TN Go.Lib
open Go.TA (E2 IntR lineLen Events AreaOf)

theorem far_any {n : Int} (w : World) (h1 : -4096 ≤ n) (h2 : n ≤ 4096) :
    Calls Tryz.prog 52 #[.int .i64 n] w fun e w' => e = .returned (.bool false) ∧ w = w' := by
  have d1 : (n < -4096) = False := eq_false (by omega)
  have d2 : (4096 < n) = False := eq_false (by omega)
  go_enter Tryz.func52, Tryz.ntmps52
  go_wp2
  go_ret
  exact ⟨rfl, rfl⟩
theorem far_enter (args : Array Value) (w : World) : (callFunc 52 args).run Tryz.prog w = .ok (.enter 52 args) w := enters_of Tryz.func52 (by kernel_rfl) rfl _ _
set_option maxHeartbeats 800000 in
theorem corner_any {x y : Int} (w : World) (h1 : -4096 ≤ x ∧ x ≤ 4096) (h2 : -4096 ≤ y ∧ y ≤ 4096) :
    Calls Tryz.prog 27 #[.int .i64 x, .int .i64 y] w fun e w' => e = .returned (.agg #[.int .i64 (256 * x), .int .i64 (256 * y)]) ∧ Ext w w' := by
  have HX := Lib.hid (fun W => far_any (n := x) W h1.1 h1.2)
  have HY := Lib.hid (fun W => far_any (n := y) W h2.1 h2.2)
  have w1 : IntKind.i64.wrap (x * 256) = 256 * x := (IntWalk.i64_in _ (by omega)).trans (by omega)
  have w2 : IntKind.i64.wrap (y * 256) = 256 * y := (IntWalk.i64_in _ (by omega)).trans (by omega)
  generalize 256 * x = X at *
  generalize 256 * y = Y at *
  have heg := far_enter
  clear h1 h2
  go_enter Tryz.func27, Tryz.ntmps27
  go_wp2_with fail
  refine (HX.out _).mono ?_
  rintro e w3 ⟨rfl, rfl⟩
  go_wp2_with fail
  refine (HY.out _).mono ?_
  rintro e w4 ⟨rfl, rfl⟩
  go_wp2
  exact bodyPost_ret (v := .agg #[.int .i64 X, .int .i64 Y]) (by simp [results, Tryz.results27, go_sem, true_and]) rfl ⟨rfl, Ext.alloc _ _⟩
/-- what Pixel hands back -/
def PixPost (w : World) (L : List (List P2)) (rule x y : Int) (e : Ending) (w' : World) : Prop :=
  ∃ v S, e = .returned (.tuple #[v, .int .i64 0]) ∧ Ext w w' ∧ RV w' v (S / 65536) ∧ Sz 503110 (S / 65536) ∧ AreaOf (fun n => fillsS n rule) (edgesL L) (256 * x) (256 * y) (256 * (x + 1)) (256 * (y + 1)) S
set_option maxRecDepth 100000 in
set_option maxHeartbeats 1600000 in
theorem Pixel_any (L : List (List P2)) (A : Option Addr) (c : Nat) {rule x y : Int} (w : World) (hS : lenS L ≤ 18) (hLn : L.length ≤ 1000) (hv : validL L = true) (hL : RingsAt w A L) (hr : rule = 1 ∨ rule = 2) (h1 : -4096 ≤ x ∧ x < 4096) (h2 : -4096 ≤ y ∧ y < 4096) :
    Calls Tryz.prog 10 #[.slice A L.length c, .int .i64 rule, .int .i64 x, .int .i64 y] w (PixPost w L rule x y) := by
  have HC := Lib.hid (fun W => corner_any (x := x) (y := y) W (by omega) (by omega))
  have HC1 := Lib.hid (fun W => corner_any (x := x + 1) (y := y + 1) W (by omega) (by omega))
  have hi1 : InC (256 * x, 256 * y) := ⟨by simp only; omega, by simp only; omega, by simp only; omega, by simp only; omega⟩
  have hi2 : InC (256 * (x + 1), 256 * (y + 1)) := ⟨by simp only; omega, by simp only; omega, by simp only; omega, by simp only; omega⟩
  have HV := Lib.hid (fun W => valid_any (256 * x) (256 * y) W)
  rw [hi1.valid] at HV
  have HIN := Lib.hid (fun W (hW : Ext w W) => InBox_any (rule := rule) L A c W hS hLn hv (hL.ext hW) hr hi1 hi2)
  have HPOST : Hid (∀ e w', (∃ v S, e = .returned (.tuple #[v, .int .i64 0]) ∧ Ext w w' ∧ RV w' v (S / 65536) ∧ Sz 503110 (S / 65536) ∧ AreaOf (fun n => fillsS n rule) (edgesL L) (256 * x) (256 * y) (256 * (x + 1)) (256 * (y + 1)) S) → PixPost w L rule x y e w') := Lib.hid fun e w' h => h
  generalize hx1 : x + 1 = x1 at *
  generalize hy1 : y + 1 = y1 at *
  generalize hX : 256 * x = X at *
  generalize hY : 256 * y = Y at *
  generalize hX1 : 256 * x1 = X1 at *
  generalize hY1 : 256 * y1 = Y1 at *
  generalize L.length = n at *
  obtain ⟨O8, hO8⟩ : ∃ O, O = Obj.cells #[.bool false, .slice none 0 0, .bool false, .slice none 0 0] 29 := ⟨_, rfl⟩
  have x8 := Box.new w 29 #[.bool false, .slice none 0 0, .bool false, .slice none 0 0]
  have hE := Ext.alloc w (.cells #[.bool false, .slice none 0 0, .bool false, .slice none 0 0] 29)
  have W1 : Hid (IntKind.i64.wrap (x + 1) = x1) := Lib.hid (by rw [hx1]; exact IntWalk.i64_in _ (by omega))
  have W2 : Hid (IntKind.i64.wrap (y + 1) = y1) := Lib.hid (by rw [hy1]; exact IntWalk.i64_in _ (by omega))
  clear hx1 hy1 hX hY hX1 hY1 hS hLn hv hL hr h1 h2 hi1 hi2 hO8
  go_enter Tryz.func10, Tryz.ntmps10
  go_wp2_with fail
  refine (HC.out _).mono ?_
  rintro e w3 ⟨rfl, hE1⟩
  replace hE := hE.trans hE1
  replace x8 := x8.ext hE1
  clear hE1
  go_wp2_with fail
  refine (HC.out _).mono ?_
  rintro e w4 ⟨rfl, hE1⟩
  replace hE := hE.trans hE1
  replace x8 := x8.ext hE1
  clear hE1 HC
  have h8 := x8.lt
  have hEA := (Ext.alloc w4 (.cells #[.int .i64 X, .int .i64 Y] 49)).trans (Ext.alloc _ (.cells #[.int .i64 X, .int .i64 Y] 49))
  have x10 := (Box.new w4 49 #[.int .i64 X, .int .i64 Y]).alloc (.cells #[.int .i64 X, .int .i64 Y] 49)
  have x11 := Box.at1 (w := w4) (o := .cells #[.int .i64 X, .int .i64 Y] 49) (t := 49) (cs := #[.int .i64 X, .int .i64 Y])
  replace hE := hE.trans hEA
  replace x8 := x8.ext hEA
  clear hEA
  have c10 := x10.cell
  go_wp2_with fail
  refine (HV.out _).mono ?_
  rintro e w5 ⟨rfl, hE1⟩
  replace hE := hE.trans hE1
  replace x8 := x8.ext hE1
  replace x10 := x10.ext hE1
  replace x11 := x11.ext hE1
  clear hE1 HV c10
  have w1 := W1.out
  have w2 := W2.out
  go_wp2_with fail
  refine (HC1.out _).mono ?_
  clear w1 w2
  rintro e w6 ⟨rfl, hE1⟩
  replace hE := hE.trans hE1
  replace x8 := x8.ext hE1
  replace x10 := x10.ext hE1
  replace x11 := x11.ext hE1
  have c10 := x10.cell
  have c11 := x11.cell
  have f11 := x11.frozen
  have hb := ((But.refl (w4.heap.size + 1) w6).set 0 (.int .i64 X1)).set 1 (.int .i64 Y1)
  have hE2 := hE.but hb (by omega)
  have x8' := hb.box x8 (by omega)
  have HI := Lib.hid (HIN.out _ hE2)
  clear hE1 HC1 HIN hb
  go_wp2_with fail
  refine HI.out.mono ?_
  rintro e w7 ⟨v, S, rfl, hE3, hv, hs, hare⟩
  have HP := Lib.hid (pixels_any hv hs)
  replace x8 := x8'.ext hE3
  replace hE := hE2.trans hE3
  clear hE2 hE3 x8' hv hs HI c10 c11 f11 x10 x11
  go_wp2_with fail
  refine HP.out.mono ?_
  rintro e w8 ⟨v', rfl, hE3, hv', hs'⟩
  obtain ⟨r, rfl, hrq, hra⟩ := hv'.rq
  replace x8 := x8.ext hE3
  replace hE := hE.trans hE3
  obtain ⟨Z, hZ, hbZ, hdZ, hbx⟩ := put_rat x8 r
  have hEZ := hE.but hbZ (by omega)
  have HR := Lib.hid (show RV Z (.agg #[.bool r.b, .slice r.A r.n r.c, .bool r.b', .slice r.A' r.n' r.c']) (S / 65536) from by rw [← hrq]; exact (hra.dk hdZ).rv)
  have HZ := Lib.hid hZ
  have HARE := Lib.hid hare
  have HSZ := Lib.hid hs'
  have c8 := x8.cell
  have f8 := x8.frozen
  have k8 := hbx.cell
  rw [← hZ] at k8
  unfold RQ.v
  clear hZ hbZ hdZ hbx x8 hE hE3 hv' hra hrq hare hs' HP
  go_wp2
  rw [HZ.out] at k8 ⊢
  exact bodyPost_ret (v := .tuple #[.agg #[.bool r.b, .slice r.A r.n r.c, .bool r.b', .slice r.A' r.n' r.c'], .int .i64 0]) (by simp [results, Tryz.results10, go_sem, k8]) rfl (HPOST.out _ _ ⟨_, S, rfl, hEZ, HR.out, HSZ.out, HARE.out⟩)
end Go.Proofs.YtodefmfgoehkhaaGreat

/- area.Total. -/
set_option linter.unusedVariables false
set_option linter.unusedSimpArgs false
namespace Go.Proofs.YtodefmfgoehkhaaGreat
open Go.RowKit Go.Par Go.Shelf Go.TN Go.Lib
open Go.TA (E2 IntR lineLen Events AreaOf)

/-- what Total hands back -/
def TotPost (w : World) (L : List (List P2)) (rule : Int) (e : Ending) (w' : World) : Prop :=
  ∃ v T, e = .returned (.tuple #[v, .int .i64 0]) ∧ Ext w w' ∧ RV w' v T ∧ Sz 503110 T ∧
    (((boundsS L).2.2 = true ∧ ∃ S, AreaOf (fun n => fillsS n rule) (edgesL L) (boundsS L).1.1 (boundsS L).1.2 (boundsS L).2.1.1 (boundsS L).2.1.2 S ∧ T = S / 65536) ∨ ((boundsS L).2.2 = false ∧ T = 0))
set_option maxRecDepth 100000 in
set_option maxHeartbeats 1600000 in
theorem Total_any (L : List (List P2)) (A : Option Addr) (c : Nat) {rule : Int} (w : World) (hS : lenS L ≤ 18) (hLn : L.length ≤ 1000) (hv : validL L = true) (hL : RingsAt w A L) (hr : rule = 1 ∨ rule = 2) :
    Calls Tryz.prog 6 #[.slice A L.length c, .int .i64 rule] w (TotPost w L rule) := by
  have HFI := Lib.hid (fun W (hW : Ext w W) => fits_any L A c W hLn hv (hL.ext hW) hr)
  have HBO := Lib.hid (fun W (hW : Ext w W) => Bounds_any L A c W (by omega) (hL.ext hW) (by omega))
  have HPOST : Hid (∀ e w', (∃ v T, e = .returned (.tuple #[v, .int .i64 0]) ∧ Ext w w' ∧ RV w' v T ∧ Sz 503110 T ∧
    (((boundsS L).2.2 = true ∧ ∃ S, AreaOf (fun n => fillsS n rule) (edgesL L) (boundsS L).1.1 (boundsS L).1.2 (boundsS L).2.1.1 (boundsS L).2.1.2 S ∧ T = S / 65536) ∨ ((boundsS L).2.2 = false ∧ T = 0))) → TotPost w L rule e w') := Lib.hid fun e w' h => h
  obtain ⟨i1, i2⟩ := boundsS_inP L
  have HIN := Lib.hid (fun W (hW : Ext w W) => InBox_any (rule := rule) (a1 := (boundsS L).1.1) (a2 := (boundsS L).1.2) (b1 := (boundsS L).2.1.1) (b2 := (boundsS L).2.1.2) L A c W hS hLn hv (hL.ext hW) hr i1 i2)
  unfold bndV at HBO
  generalize hok : (boundsS L).2.2 = ok at *
  generalize (boundsS L).1.1 = l1 at *
  generalize (boundsS L).1.2 = l2 at *
  generalize (boundsS L).2.1.1 = h1 at *
  generalize (boundsS L).2.1.2 = h2 at *
  generalize L.length = n at *
  have x4 := Box.new w 29 #[.bool false, .slice none 0 0, .bool false, .slice none 0 0]
  have hE := Ext.alloc w (.cells #[.bool false, .slice none 0 0, .bool false, .slice none 0 0] 29)
  clear hS hLn hv hL hr i1 i2 hok
  go_enter Tryz.func6, Tryz.ntmps6
  go_wp2_with fail
  refine (HFI.out _ hE).mono ?_
  rintro e w1 ⟨rfl, hE1⟩
  replace hE := hE.trans hE1
  replace x4 := x4.ext hE1
  clear hE1 HFI
  go_wp2_with fail
  refine (HBO.out _ hE).mono ?_
  rintro e w2 ⟨rfl, hE1⟩
  replace hE := hE.trans hE1
  replace x4 := x4.ext hE1
  clear hE1 HBO
  have h4 := x4.lt
  have hEA := (Ext.alloc w2 (.cells #[.int .i64 l1, .int .i64 l2] 49)).trans (Ext.alloc _ (.cells #[.int .i64 h1, .int .i64 h2] 49))
  have x7 := (Box.new w2 49 #[.int .i64 l1, .int .i64 l2]).alloc (.cells #[.int .i64 h1, .int .i64 h2] 49)
  have x8 := Box.at1 (w := w2) (o := .cells #[.int .i64 l1, .int .i64 l2] 49) (t := 49) (cs := #[.int .i64 h1, .int .i64 h2])
  replace hE := hE.trans hEA
  replace x4 := x4.ext hEA
  clear hEA
  have c7 := x7.cell
  have c8 := x8.cell
  cases ok
  · go_wp2_with fail
    refine (fromIntV 0 _ (by omega) (by omega)).mono ?_
    rintro e w3 ⟨v, rfl, hE1, hv⟩
    obtain ⟨r, rfl, hrq, hra⟩ := hv.rq
    replace hE := hE.trans hE1
    replace x4 := x4.ext hE1
    obtain ⟨Z, hZ, hbZ, hdZ, hbx⟩ := put_rat x4 r
    have hEZ := hE.but hbZ (by omega)
    have HR := Lib.hid (show RV Z (.agg #[.bool r.b, .slice r.A r.n r.c, .bool r.b', .slice r.A' r.n' r.c']) 0 from by have := (hra.dk hdZ).rv; rwa [hrq] at this)
    have HZ := Lib.hid hZ
    have f4 := x4.frozen
    have c4 := x4.cell
    have k4 := hbx.cell
    rw [← hZ] at k4
    unfold RQ.v
    clear hZ hbZ hdZ hbx x4 hE hE1 hv hra hrq HIN c7 c8 x7 x8
    go_wp2
    rw [HZ.out] at k4 ⊢
    exact bodyPost_ret (v := .tuple #[.agg #[.bool r.b, .slice r.A r.n r.c, .bool r.b', .slice r.A' r.n' r.c'], .int .i64 0]) (by simp [results, Tryz.results6, go_sem, k4]) rfl (HPOST.out _ _ ⟨_, 0, rfl, hEZ, HR.out, (Sz.coord (z := 0) (by omega) (by omega)).mono (by omega), .inr ⟨trivial, rfl⟩⟩)
  · have HI := Lib.hid (HIN.out _ hE)
    go_wp2_with fail
    refine HI.out.mono ?_
    rintro e w7 ⟨v, S, rfl, hE3, hv, hs, hare⟩
    have HP := Lib.hid (pixels_any hv hs)
    replace x4 := x4.ext hE3
    replace hE := hE.trans hE3
    clear hE3 hv hs HI HIN c7 c8 x7 x8
    go_wp2_with fail
    refine HP.out.mono ?_
    rintro e w8 ⟨v', rfl, hE3, hv', hs'⟩
    obtain ⟨r, rfl, hrq, hra⟩ := hv'.rq
    replace x4 := x4.ext hE3
    replace hE := hE.trans hE3
    obtain ⟨Z, hZ, hbZ, hdZ, hbx⟩ := put_rat x4 r
    have hEZ := hE.but hbZ (by omega)
    have HR := Lib.hid (show RV Z (.agg #[.bool r.b, .slice r.A r.n r.c, .bool r.b', .slice r.A' r.n' r.c']) (S / 65536) from by rw [← hrq]; exact (hra.dk hdZ).rv)
    have HZ := Lib.hid hZ
    have HARE := Lib.hid hare
    have HSZ := Lib.hid hs'
    have c4 := x4.cell
    have f4 := x4.frozen
    have k4 := hbx.cell
    rw [← hZ] at k4
    unfold RQ.v
    clear hZ hbZ hdZ hbx x4 hE hE3 hv' hra hrq hare hs' HP
    go_wp2
    rw [HZ.out] at k4 ⊢
    exact bodyPost_ret (v := .tuple #[.agg #[.bool r.b, .slice r.A r.n r.c, .bool r.b', .slice r.A' r.n' r.c'], .int .i64 0]) (by simp [results, Tryz.results6, go_sem, k4]) rfl (HPOST.out _ _ ⟨_, _, rfl, hEZ, HR.out, HSZ.out, .inl ⟨trivial, S, HARE.out, rfl⟩⟩)
end Go.Proofs.YtodefmfgoehkhaaGreat

/- coverage.FromArea. -/
set_option linter.unusedVariables false
set_option linter.unusedSimpArgs false
namespace Go.Proofs.YtodefmfgoehkhaaGreat
open Go.RowKit Go.Par Go.Shelf Go.TN Go.Lib
open Go.TA (E2 IntR lineLen Events AreaOf covQ)

theorem half_def : Rat.divInt 1 2 = (1 / 2 : Rat) := by rw [Rat.divInt_eq_div]; rfl
theorem cov_mid {q : Rat} (h0 : 0 < q) (h1 : q < 1) : covQ q = (q * 255 + 1 / 2).floor := by
  unfold covQ
  rw [if_neg (by grind), if_neg (by grind)]
theorem cmp0_le (q : Rat) : cmpQ q ((0 : Int) : Rat) ≤ 0 ↔ q ≤ 0 := by
  have h : 0 < cmpQ q ((0 : Int) : Rat) ↔ ((0 : Int) : Rat) < q := cmpQ_pos
  have e : ((0 : Int) : Rat) = 0 := rfl
  rw [e] at h ⊢
  constructor
  · intro k
    have : ¬ 0 < q := fun k2 => by have := h.2 k2; omega
    grind
  · intro k
    have : ¬ 0 < cmpQ q 0 := fun k2 => by have := h.1 k2; grind
    omega
theorem cmp1_ge (q : Rat) : 0 ≤ cmpQ q ((1 : Int) : Rat) ↔ 1 ≤ q := by
  have h : cmpQ q ((1 : Int) : Rat) < 0 ↔ q < ((1 : Int) : Rat) := cmpQ_neg
  have e : ((1 : Int) : Rat) = 1 := rfl
  rw [e] at h ⊢
  constructor
  · intro k
    have : ¬ q < 1 := fun k2 => by have := h.2 k2; omega
    grind
  · intro k
    have : ¬ cmpQ q 1 < 0 := fun k2 => by have := h.1 k2; grind
    omega
set_option maxRecDepth 100000 in
set_option maxHeartbeats 1600000 in
theorem FromArea_any {w : World} {u : Value} {q : Rat} {k : Nat} (h : RV w u q) (hs : Sz k q) (hk : k ≤ 10000000) :
    Calls Tryz.prog 12 #[u] w fun e w' => e = .returned (.int .u8 (covQ q)) ∧ Ext w w' := by
  obtain ⟨p, rfl, hpq, hpa⟩ := h.rq
  have s0 : Sz 2 ((0 : Int) : Rat) := Sz.coord (by omega) (by omega)
  have s1 : Sz 2 ((1 : Int) : Rat) := Sz.coord (by omega) (by omega)
  have s255 : Sz 2 ((255 : Int) : Rat) := Sz.coord (by omega) (by omega)
  have sh : Sz 2 (Rat.divInt 1 2) := Sz.low (by omega) (L_i64 (by omega) (by omega)) (L_i64 (by omega) (by omega))
  have sm : Sz (k + 2) (q * ((255 : Int) : Rat)) := hs.mul s255
  have sa : Sz (k + 5) (q * ((255 : Int) : Rat) + Rat.divInt 1 2) := (sm.add sh).mono (by omega)
  have HH := Lib.hid (fun W => fromIntsV 1 2 W (by omega) (by omega) (by omega) (by omega) (by omega))
  have HC0 := Lib.hid (fun W y (hW : Ext w W) (hy : RV W y ((0 : Int) : Rat)) => cmpR (hpa.ext hW).rv hy (by rw [hpq]; exact hs) s0 (by omega))
  have HC1 := Lib.hid (fun W y (hW : Ext w W) (hy : RV W y ((1 : Int) : Rat)) => cmpR (hpa.ext hW).rv hy (by rw [hpq]; exact hs) s1 (by omega))
  have HMU := Lib.hid (fun W y (hW : Ext w W) (hy : RV W y ((255 : Int) : Rat)) => mulR (hpa.ext hW).rv hy (by rw [hpq]; exact hs) s255 (by omega))
  have HAD := Lib.hid (fun W x y (hx : RV W x (q * ((255 : Int) : Rat))) (hy : RV W y (Rat.divInt 1 2)) => addR hx hy sm sh (by omega))
  have HFL := Lib.hid (fun W x (hx : RV W x (q * ((255 : Int) : Rat) + Rat.divInt 1 2)) (h0 : 0 ≤ q * ((255 : Int) : Rat) + Rat.divInt 1 2) => floorR hx sa (by omega) h0)
  rw [hpq] at HC0 HC1 HMU
  have c255 : ((255 : Int) : Rat) = 255 := rfl
  have k0 := cmp0_le q
  have k1 := cmp1_ge q
  generalize cmpQ q ((0 : Int) : Rat) = r0 at *
  generalize cmpQ q ((1 : Int) : Rat) = r1 at *
  have K0 := Lib.hid k0
  have K1 := Lib.hid k1
  have HCV := Lib.hid (show covQ q = if q ≤ 0 then 0 else if 1 ≤ q then 255 else (q * 255 + 1 / 2).floor from rfl)
  have HFQ : Hid (0 < q → q < 1 → 0 ≤ q * ((255 : Int) : Rat) + Rat.divInt 1 2 ∧ ∃ m : Nat, (q * ((255 : Int) : Rat) + Rat.divInt 1 2).floor = (m : Int) ∧ m ≤ 255 ∧ covQ q = (m : Int)) := Lib.hid (by
    intro h0 h1
    rw [half_def, c255]
    refine ⟨by grind, (q * 255 + 1 / 2).floor.toNat, ?_, ?_, ?_⟩
    · have := Go.TA.cov_floor h0 h1; omega
    · have := Go.TA.cov_floor h0 h1; omega
    · rw [cov_mid h0 h1]; have := Go.TA.cov_floor h0 h1; omega)
  unfold RQ.v at HC0 HC1 HMU ⊢
  generalize covQ q = cq at *
  have x1 := Box.new w 29 #[.bool p.b, .slice p.A p.n p.c, .bool p.b', .slice p.A' p.n' p.c']
  have hE := Ext.alloc w (.cells #[.bool p.b, .slice p.A p.n p.c, .bool p.b', .slice p.A' p.n' p.c'] 29)
  clear h hs hpq hpa s0 s1 s255 sh sm sa k0 k1 c255
  obtain ⟨bb0, hbb0⟩ : ∃ bb, decide (r0 ≤ 0) = bb := ⟨_, rfl⟩
  obtain ⟨bb1, hbb1⟩ : ∃ bb, decide (0 ≤ r1) = bb := ⟨_, rfl⟩
  go_enter Tryz.func12, Tryz.ntmps12
  go_wp2_with fail
  refine (HH.out _).mono ?_
  rintro e w1 ⟨v, rfl, hE1, hv⟩
  obtain ⟨t, rfl, htq, hta⟩ := hv.rq
  have x3 := Box.new w1 29 #[.bool t.b, .slice t.A t.n t.c, .bool t.b', .slice t.A' t.n' t.c']
  have hE2 := Ext.alloc w1 (.cells #[.bool t.b, .slice t.A t.n t.c, .bool t.b', .slice t.A' t.n' t.c'] 29)
  replace hE := (hE.trans hE1).trans hE2
  replace x1 := (x1.ext hE1).ext hE2
  replace hta := hta.ext hE2
  have n13 : w.heap.size ≠ w1.heap.size := by have := hE1.size; simp at this; omega
  clear hE1 hE2 hv HH
  unfold RQ.v
  go_wp2_with fail
  apply wp_region_par' 5 (by kernel_rfl) (by kernel_rfl) rfl
  simp only [List.take_succ_cons, List.take_zero, List.drop_succ_cons, List.drop_zero]
  generalize hW : World.drew _ = W
  have hEW := Ext.of_drew (Ext.refl _) hW
  replace hE := hE.trans hEW
  replace x1 := x1.ext hEW
  replace x3 := x3.ext hEW
  replace hta := hta.ext hEW
  clear hW hEW
  have y1 := x1.lcell
  iterate 1
    refine parW_step rfl (fun K hK => ?_)
    apply Exists.intro
    refine ⟨fun z => ?_, ?_⟩
    focus
      go_simp
      first
        | rfl
        | fail
    go_simp
    refine hK _ ?_
    clear hK K
  refine parW_rel rfl (RV.stable ((0 : Int) : Rat)) (fun z => ?_) ?_
  · have hc := fromIntV 0 z.val (by omega) (by omega)
    simp only [Giv]
    go_simp
    exact calls_rel hc
  refine parW_giv (c := .int .i64 r0) (fun z => ?_) ?_
  · intro va hva
    have k1 := hva (show Nat.testBit _ _ = true from by kernel_rfl)
    have hc := HC0.out z.val va (hE.later z) k1
    simp only [Giv]
    go_simp
    exact calls_val hc
  iterate 2
    refine parW_step rfl (fun K hK => ?_)
    apply Exists.intro
    refine ⟨fun z => ?_, ?_⟩
    focus
      go_simp
      first
        | rfl
        | fail
    go_simp
    refine hK _ ?_
    clear hK K
  refine parW_fin (fun z => ?_)
  rintro va oa hp
  simp only [Act.put, List.setIfInBounds_toArray, List.set_cons_succ, List.set_cons_zero]
  have hEz := hE.later z
  replace x1 := x1.ext z.prop
  replace x3 := x3.ext z.prop
  replace hta := hta.ext z.prop
  clear y1 oa hp hE
  generalize z.val = Z at *
  clear z
  cases bb0
  case true =>
    have h0 : r0 ≤ 0 := of_decide_eq_true hbb0
    have HR := Lib.hid (show cq = 0 from by rw [HCV.out, if_pos (K0.out.1 h0)])
    clear HFQ HCV h0 hbb0
    go_wp2
    go_ret
    exact ⟨ret_eq (by rw [HR.out]; rfl), hEz⟩
  case false =>
    have h0 : ¬ r0 ≤ 0 := of_decide_eq_false hbb0
    have H0 := Lib.hid h0
    have q0 : 0 < q := by
      have : ¬ q ≤ 0 := fun h => h0 (K0.out.2 h)
      grind
    have Q0 := Lib.hid q0
    clear q0 h0 hbb0
    go_wp2_with fail
    apply wp_region_par' 5 (by kernel_rfl) (by kernel_rfl) rfl
    simp only [List.take_succ_cons, List.take_zero, List.drop_succ_cons, List.drop_zero]
    generalize hW : World.drew _ = W2
    have hEW := Ext.of_drew (Ext.refl Z) hW
    replace hEz := hEz.trans hEW
    replace x1 := x1.ext hEW
    replace x3 := x3.ext hEW
    replace hta := hta.ext hEW
    clear hW hEW
    have y1 := x1.lcell
    iterate 1
      refine parW_step rfl (fun K hK => ?_)
      apply Exists.intro
      refine ⟨fun z => ?_, ?_⟩
      focus
        go_simp
        first
          | rfl
          | fail
      go_simp
      refine hK _ ?_
      clear hK K
    refine parW_rel rfl (RV.stable ((1 : Int) : Rat)) (fun z => ?_) ?_
    · have hc := fromIntV 1 z.val (by omega) (by omega)
      simp only [Giv]
      go_simp
      exact calls_rel hc
    refine parW_giv (c := .int .i64 r1) (fun z => ?_) ?_
    · intro va hva
      have k1 := hva (show Nat.testBit _ _ = true from by kernel_rfl)
      have hc := HC1.out z.val va (hEz.later z) k1
      simp only [Giv]
      go_simp
      exact calls_val hc
    iterate 2
      refine parW_step rfl (fun K hK => ?_)
      apply Exists.intro
      refine ⟨fun z => ?_, ?_⟩
      focus
        go_simp
        first
          | rfl
          | fail
      go_simp
      refine hK _ ?_
      clear hK K
    refine parW_fin (fun z => ?_)
    rintro va oa hp
    simp only [Act.put, List.setIfInBounds_toArray, List.set_cons_succ, List.set_cons_zero]
    replace hEz := hEz.later z
    replace x1 := x1.ext z.prop
    replace x3 := x3.ext z.prop
    replace hta := hta.ext z.prop
    clear y1 oa hp
    generalize z.val = Z2 at *
    clear z
    cases bb1
    case true =>
      have h1 : 0 ≤ r1 := of_decide_eq_true hbb1
      have HR := Lib.hid (show cq = 255 from by rw [HCV.out, if_neg (fun h => absurd (K0.out.2 h) (by have := H0.out; omega)), if_pos (K1.out.1 h1)])
      clear HFQ HCV h1 hbb1
      go_wp2
      go_ret
      exact ⟨ret_eq (by rw [HR.out]; rfl), hEz⟩
    case false =>
      have h1 : ¬ 0 ≤ r1 := of_decide_eq_false hbb1
      have q1 : q < 1 := by
        have : ¬ 1 ≤ q := fun h => h1 (K1.out.2 h)
        grind
      obtain ⟨hpos, m, hfl, hm, hcq⟩ := HFQ.out Q0.out q1
      have HPS := Lib.hid hpos
      have HCQ := Lib.hid hcq
      have HFM := Lib.hid hfl
      clear q1 hpos hcq hfl HFQ HCV h1 hbb1
      go_wp2_with fail
      apply wp_region_par' 12 (by kernel_rfl) (by kernel_rfl) rfl
      simp only [List.take_succ_cons, List.take_zero, List.drop_succ_cons, List.drop_zero]
      generalize hW : World.drew _ = W3
      have hEW := Ext.of_drew (Ext.refl Z2) hW
      replace hEz := hEz.trans hEW
      replace x1 := x1.ext hEW
      replace x3 := x3.ext hEW
      replace hta := hta.ext hEW
      clear hW hEW
      have y1 := x1.lcell
      have y3 := x3.lcell
      generalize hA : q * ((255 : Int) : Rat) = qa at *
      generalize hB : qa + Rat.divInt 1 2 = qb at *
      iterate 1
        refine parW_step rfl (fun K hK => ?_)
        apply Exists.intro
        refine ⟨fun z => ?_, ?_⟩
        focus
          go_simp
          first
            | rfl
            | fail
        go_simp
        refine hK _ ?_
        clear hK K
      refine parW_rel rfl (RV.stable ((255 : Int) : Rat)) (fun z => ?_) ?_
      · have hc := fromIntV 255 z.val (by omega) (by omega)
        simp only [Giv]
        go_simp
        exact calls_rel hc
      refine parW_rel rfl (RV.stable qa) (fun z => ?_) ?_
      · intro va hva
        have k1 := hva (show Nat.testBit _ _ = true from by kernel_rfl)
        have hc := HMU.out z.val va (hEz.later z) k1
        simp only [Giv]
        go_simp
        exact calls_rel hc
      iterate 1
        refine parW_step rfl (fun K hK => ?_)
        apply Exists.intro
        refine ⟨fun z => ?_, ?_⟩
        focus
          go_simp
          first
            | rfl
            | fail
        go_simp
        refine hK _ ?_
        clear hK K
      refine parW_rel rfl (RV.stable qb) (fun z => ?_) ?_
      · intro va hva vb hvb
        have k1 := hvb (show Nat.testBit _ _ = true from by kernel_rfl)
        have k2 : RV z.val (.agg #[.bool t.b, .slice t.A t.n t.c, .bool t.b', .slice t.A' t.n' t.c']) (Rat.divInt 1 2) := by rw [← htq]; exact (hta.ext z.prop).rv
        have hc := HAD.out z.val _ _ k1 k2
        clear k2
        simp only [Giv]
        go_simp
        exact calls_rel hc
      refine parW_rel rfl (IV.stable (m : Int)) (fun z => ?_) ?_
      · intro va hva vb hvb vc hvc
        have k1 := hvc (show Nat.testBit _ _ = true from by kernel_rfl)
        have hc := HFL.out z.val _ k1 HPS.out
        rw [HFM.out] at hc
        simp only [Giv]
        go_simp
        exact calls_rel hc
      refine parW_giv (c := .tuple #[.int .i64 (m : Int), .bool true]) (fun z => ?_) ?_
      · intro va hva vb hvb vc hvc vd hvd
        have k1 := hvd (show Nat.testBit _ _ = true from by kernel_rfl)
        have hc := toV k1 (by omega)
        simp only [Giv]
        go_simp
        exact calls_val hc
      iterate 5
        refine parW_step rfl (fun K hK => ?_)
        apply Exists.intro
        refine ⟨fun z => ?_, ?_⟩
        focus
          go_simp
          first
            | rfl
            | fail
        go_simp
        refine hK _ ?_
        clear hK K
      refine parW_fin (fun z => ?_)
      rintro va oa vb ob vc oc vd od hp
      simp only [Act.put, List.setIfInBounds_toArray, List.set_cons_succ, List.set_cons_zero]
      replace hEz := hEz.later z
      clear y1 y3 oa ob oc od hp x1 x3 hta
      generalize z.val = Z3 at *
      clear z
      have w8 : IntKind.u8.wrap (m : Int) = (m : Int) := by
        rw [IntKind.wrap_u8]
        omega
      go_wp2
      go_ret
      exact ⟨ret_eq (by rw [HCQ.out]; rfl), hEz⟩
end Go.Proofs.YtodefmfgoehkhaaGreat
