/- Bitmaps: bitmap.Valid and the reference's; Equal of the reference. -/
import Derived.Test.YtefdheoalonbaaaBmLaw
set_option linter.unusedVariables false
set_option linter.unusedSimpArgs false
namespace Go.Proofs.Ytefdheoalonbaaa
open Go.RowKit Go.Par

set_option maxHeartbeats 400000 in
theorem clos_any (r g b a : Int) (w : World) :
    Calls Try.prog 69 #[.agg #[.int .u8 r, .int .u8 g, .int .u8 b, .int .u8 a]] w fun e w' => e = .returned (.bool (!pxOk (r, g, b, a))) ∧ Ext w w' := by
  have HP := Lib.hid (fun W => PxValid_any r g b a W)
  generalize pxOk (r, g, b, a) = q at *
  go_enter Try.func69, Try.ntmps69
  go_wp2_with fail
  refine (HP.out _).mono ?_
  rintro e w1 ⟨rfl, hE⟩
  go_wp2
  go_ret
  exact ⟨rfl, (Ext.alloc _ _).trans hE⟩
/-- the index of the first wrong pixel -/
def badS (l : List P4) : Int := match l.findIdx? (fun p => !pxOk p) with | some i => (i : Int) | none => -1
theorem badS_some {l : List P4} {k : Nat} {t : P4} (hk : l[k]? = some t) (hp : pxOk t = false) (hno : ∀ j, j < k → ∀ q, l[j]? = some q → pxOk q = true) : badS l = k := by
  have hlt := (List.getElem?_eq_some_iff.1 hk).1
  have e : l.findIdx? (fun p => !pxOk p) = some k := by
    rw [List.findIdx?_eq_some_iff_getElem]
    refine ⟨hlt, ?_, fun j hj => ?_⟩
    · have := (List.getElem?_eq_some_iff.1 hk).2
      rw [this, hp]; rfl
    · rw [hno j hj _ (List.getElem?_eq_getElem (by omega))]; decide
  unfold badS
  rw [e]
theorem badS_none {l : List P4} (hno : ∀ (j : Nat) (q : P4), l[j]? = some q → pxOk q = true) : badS l = -1 := by
  have e : l.findIdx? (fun p => !pxOk p) = none := by
    rw [List.findIdx?_eq_none_iff]
    intro x hx
    obtain ⟨j, hj⟩ := List.mem_iff_getElem?.1 hx
    rw [hno j x hj]; rfl
  unfold badS
  rw [e]
theorem badS_nonneg (l : List P4) : decide (0 ≤ badS l) = !l.all pxOk := by
  unfold badS
  cases h : l.findIdx? (fun p => !pxOk p) with
  | none =>
    rw [List.findIdx?_eq_none_iff] at h
    have : l.all pxOk = true := by
      rw [List.all_eq_true]
      intro x hx
      have := h x hx
      simpa using this
    rw [this]; rfl
  | some i =>
    rw [List.findIdx?_eq_some_iff_getElem] at h
    obtain ⟨h1, h2, _⟩ := h
    have : l.all pxOk = false := by
      rw [List.all_eq_false]
      exact ⟨_, List.getElem_mem h1, by simpa using h2⟩
    rw [this]
    simp
set_option maxHeartbeats 800000 in
theorem idxF_any (l : List P4) (A : Option Addr) (c n : Nat) (w : World) (hn : l.length = n) (hb : n ≤ 17592186044416) (h : pixE.At w A l) :
    Calls Try.prog 82 #[.slice A n c, .func (.func 69) #[] #[]] w fun e w' => e = .returned (.int .i64 (badS l)) ∧ Ext w w' := by
  have HN := Lib.hid hn
  clear hn
  have HC := Lib.hid clos_any
  have eC : ∀ args W, (callFunc 69 args).run Try.prog W = .ok (.enter 69 args) W := enters_of Try.func69 (by kernel_rfl) rfl
  go_enter Try.func82, Try.ntmps82
  go_wp2_with fail
  go_loopw [8] (fun i wr => ∃ j : Nat, j ≤ n ∧ i = .int .i64 j ∧ Ext w wr ∧ Hid (∀ k, k < j → ∀ q, l[k]? = some q → pxOk q = true)) (fun i _ => n - (intOf i).toNat)
  case atStart => exact ⟨0, Nat.zero_le _, rfl, Ext.refl _, Lib.hid (fun k hk => absurd hk (by omega))⟩
  case round =>
    obtain ⟨j, hj, rfl, hE, HT⟩ := hrel
    by_cases hlt : j < n
    · obtain ⟨⟨r, g, b, a⟩, hlx⟩ : ∃ q, l[j]? = some q := ⟨_, List.getElem?_eq_getElem (by rw [HN.out]; exact hlt)⟩
      obtain ⟨bb, o, rfl, hcell⟩ := h (fun e => by rw [e] at hlx; simp at hlx)
      obtain ⟨e0, e1, e2, e3⟩ := pix_cells hcell hlx
      replace e0 := hE.cell e0
      replace e1 := hE.cell e1
      replace e2 := hE.cell e2
      replace e3 := hE.cell e3
      have HX := Lib.hid hlx
      clear hcell hlx
      have HC' := Lib.hid (fun W => HC.out r g b a W)
      go_wp2_with fail
      refine (HC'.out _).mono ?_
      rintro e w1 ⟨rfl, hE1⟩
      cases hp : pxOk (r, g, b, a)
      · have HS := Lib.hid (badS_some HX.out hp HT.out)
        clear hp HT
        go_wp2
        go_ret
        exact ⟨ret_eq (by rw [HS.out]; rfl), hE.trans hE1⟩
      · have HS := Lib.hid (show ∀ k, k < j + 1 → ∀ q, l[k]? = some q → pxOk q = true from fun k hk q hq => by
          by_cases hkj : k < j
          · exact HT.out k hkj q hq
          · have : k = j := by omega
            subst this
            rw [HX.out] at hq
            injection hq with hq
            rw [← hq, hp])
        clear hp HT
        go_wp2
        go_roundw
        case rel => exact ⟨j + 1, by omega, by go_num, hE.trans hE1, HS⟩
        case measure => simp [intOf]; omega
    · have HS := Lib.hid (show badS l = -1 from badS_none fun k q hq => HT.out k (by
        have := (List.getElem?_eq_some_iff.1 hq).1
        rw [HN.out] at this
        omega) q hq)
      have d3 : ((j : Int) < (n : Int)) = False := eq_false (by omega)
      clear HT
      go_wp2
      go_ret
      exact ⟨ret_eq (by rw [HS.out]; rfl), hE⟩
set_option maxHeartbeats 800000 in
theorem hasF_any (l : List P4) (A : Option Addr) (c n : Nat) (w : World) (hn : l.length = n) (hb : n ≤ 17592186044416) (h : pixE.At w A l) :
    Calls Try.prog 68 #[.slice A n c, .func (.func 69) #[] #[]] w fun e w' => e = .returned (.bool (!l.all pxOk)) ∧ Ext w w' := by
  have HI := Lib.hid (idxF_any l A c n w hn hb h)
  have HB := Lib.hid (badS_nonneg l)
  clear h
  generalize badS l = k at *
  go_enter Try.func68, Try.ntmps68
  go_wp2_with fail
  refine HI.out.mono ?_
  rintro e w1 ⟨rfl, hE⟩
  go_wp2
  go_ret
  exact ⟨ret_eq (by rw [← HB.out]; rfl), hE⟩
set_option maxHeartbeats 1600000 in
theorem BmValid_any (x0 y0 x1 y1 : Int) (A : Option Addr) (c n : Nat) (l : List P4) (w : World) (hn : l.length = n) (hb : n ≤ 17592186044416) (h : pixE.At w A l) :
    Calls Try.prog 46 #[.agg #[.int .i64 x0, .int .i64 y0, .int .i64 x1, .int .i64 y1, .slice A n c]] w fun e w' => e = .returned (.bool (bmOk ((x0, y0, x1, y1), l))) ∧ Ext w w' := by
  have HV := Lib.hid (show bmOk ((x0, y0, x1, y1), l) = (decide (rectCanonS (x0, y0, x1, y1) = (x0, y0, x1, y1)) && decide (areaR (x0, y0, x1, y1) ≤ 65536) && decide ((n : Int) = areaR (x0, y0, x1, y1)) && l.all pxOk) from by rw [← hn]; rfl)
  have HA := Lib.hid (fun W => pArea_any x0 y0 x1 y1 W)
  have HC := Lib.hid (fun W => pCanon_any x0 y0 x1 y1 W)
  have HF := Lib.hid (fun W (k : Ext w W) => hasF_any l A c n W hn hb (h.ext k))
  have ab := areaR_bd (x0, y0, x1, y1)
  clear h
  generalize areaR (x0, y0, x1, y1) = ar at *
  generalize l.all pxOk = ok at *
  generalize hcn : rectCanonS (x0, y0, x1, y1) = q at *
  obtain ⟨q0, q1, q2, q3⟩ := q
  unfold rectV at HC
  go_enter Try.func46, Try.ntmps46
  go_wp2_with fail
  refine (HA.out _).mono ?_
  rintro e w1 ⟨rfl, hE⟩
  have B1 := (Box.new w 34 #[.int .i64 x0, .int .i64 y0, .int .i64 x1, .int .i64 y1, .slice A n c]).ext hE
  replace hE := (Ext.alloc _ _).trans hE
  have c1 := B1.cell
  go_wp2_with fail
  apply wp_region_par' 17 (by kernel_rfl) (by kernel_rfl) rfl
  simp only [List.take_succ_cons, List.take_zero, List.drop_succ_cons, List.drop_zero]
  generalize hW : World.drew _ = W
  replace hE : Ext w W := by rw [← hW]; exact hE.trans (Ext.drew _)
  replace B1 : Box W w.heap.size 34 #[.int .i64 x0, .int .i64 y0, .int .i64 x1, .int .i64 y1, .slice A n c] := by rw [← hW]; exact B1.drew
  clear hW c1
  have k1 := B1.lcell
  by_cases hq : q0 = x0 ∧ q1 = y0 ∧ q2 = x1 ∧ q3 = y1
  · obtain ⟨rfl, rfl, rfl, rfl⟩ := hq
    by_cases ha : ar ≤ 65536
    · by_cases hl : (n : Int) = ar
      · have HR := Lib.hid (show bmOk ((q0, q1, q2, q3), l) = ok from by rw [HV.out, hl, decide_eq_true ha]; simp)
        have d2 : ((65536 : Int) < ar) = False := eq_false (by omega)
        have d3 : ((n : Int) == ar) = true := by simp [hl]
        have d3' : decide ((n : Int) = ar) = true := by simp [hl]
        clear hl HV hcn
        iterate 17
          refine parW_step rfl (fun K hK => ?_)
          apply Exists.intro
          refine ⟨fun z => ?_, ?_⟩
          focus
            go_simp
            first
              | rfl
              | with_reducible exact calls_val (HC.out _)
          go_simp
          refine hK _ ?_
          clear hK K
        refine parW_end (fun z => ?_)
        replace hE := hE.later z
        replace B1 := B1.later z
        generalize z.val = Z at *
        clear k1 z
        have c1 := B1.cell
        go_wp2_with fail
        refine (HF.out _ hE).mono ?_
        rintro e w2 ⟨rfl, hE1⟩
        go_wp2
        go_ret
        exact ⟨ret_eq (by rw [HR.out]; simp), hE.trans hE1⟩
      · have HR := Lib.hid (show bmOk ((q0, q1, q2, q3), l) = false from by rw [HV.out, decide_eq_false hl]; simp)
        have d2 : ((65536 : Int) < ar) = False := eq_false (by omega)
        have d3 : ((n : Int) == ar) = false := by simp [hl]
        have d3' : decide ((n : Int) = ar) = false := by simp [hl]
        clear hl HV hcn
        iterate 17
          refine parW_step rfl (fun K hK => ?_)
          apply Exists.intro
          refine ⟨fun z => ?_, ?_⟩
          focus
            go_simp
            first
              | rfl
              | with_reducible exact calls_val (HC.out _)
          go_simp
          refine hK _ ?_
          clear hK K
        refine parW_end (fun z => ?_)
        go_wp2
        go_ret
        exact ⟨ret_eq (by rw [HR.out]; rfl), hE.later z⟩
    · have HR := Lib.hid (show bmOk ((q0, q1, q2, q3), l) = false from by rw [HV.out, decide_eq_false ha]; simp)
      have d2 : ((65536 : Int) < ar) = True := eq_true (by omega)
      clear ha HV hcn
      iterate 17
        refine parW_step rfl (fun K hK => ?_)
        apply Exists.intro
        refine ⟨fun z => ?_, ?_⟩
        focus
          go_simp
          first
            | rfl
            | with_reducible exact calls_val (HC.out _)
        go_simp
        refine hK _ ?_
        clear hK K
      refine parW_end (fun z => ?_)
      go_wp2
      go_ret
      exact ⟨ret_eq (by rw [HR.out]; rfl), hE.later z⟩
  · have HR := Lib.hid (show bmOk ((x0, y0, x1, y1), l) = false from by
      rw [HV.out, decide_eq_false (show ¬ (q0, q1, q2, q3) = (x0, y0, x1, y1) from fun e => hq (by simpa using e))]; simp)
    have d1 : (decide (q0 = x0) && (decide (q1 = y0) && (decide (q2 = x1) && decide (q3 = y1)))) = false := by
      rw [Bool.eq_false_iff]; intro e; apply hq; simpa using e
    have d2 : (¬q0 = x0 ∨ ¬q1 = y0 ∨ ¬q2 = x1 ∨ ¬q3 = y1) = True := eq_true (by omega)
    clear hq HV hcn
    iterate 17
      refine parW_step rfl (fun K hK => ?_)
      apply Exists.intro
      refine ⟨fun z => ?_, ?_⟩
      focus
        go_simp
        first
          | rfl
          | with_reducible exact calls_val (HC.out _)
      go_simp
      refine hK _ ?_
      clear hK K
    refine parW_end (fun z => ?_)
    go_wp2
    go_ret
    exact ⟨ret_eq (by rw [HR.out]; rfl), hE.later z⟩
end Go.Proofs.Ytefdheoalonbaaa
