/- bands: the bands of the pixels that keep lets by. -/
import Derived.Test.YtkjpcjmbhpfelaaGreatRgBoth
set_option linter.unusedVariables false
set_option linter.unusedSimpArgs false
namespace Go.Par
open Go.RowKit
section
variable {P : Program} {α β : Type} {E : EL P α} {F : EL P β}
/-- elements in a block known whole -/
def EL.BoxAt (E : EL P α) (w : World) (A : Option Addr) (l : List α) : Prop :=
  l ≠ [] → ∃ g cur, A = some ⟨g, 0, none⟩ ∧ Box w g E.t cur ∧ ∀ (j : Nat) (v : Value), (E.cells l)[j]? = some v → cur[j]? = some v
theorem EL.BoxAt.ext {w w' : World} {A : Option Addr} {l : List α} (h : E.BoxAt w A l) (he : Ext w w') : E.BoxAt w' A l := fun hl => by
  obtain ⟨g, cur, e, h2, h3⟩ := h hl
  exact ⟨g, cur, e, h2.ext he, h3⟩
theorem EL.BoxAt.at {w : World} {A : Option Addr} {l : List α} (h : E.BoxAt w A l) : E.At w A l := fun hl => by
  obtain ⟨g, cur, e, h2, h3⟩ := h hl
  obtain ⟨b, o, e', hc⟩ := EL.At.box h2 h3 hl
  exact ⟨b, o, by rw [e, ← e'], hc⟩
theorem EL.BoxAt.of_own {w : World} {B : Nat} {A : Option Addr} {n c : Nat} {l : List α} (h : E.Own w B (.slice A n c) l) : E.BoxAt w A l := fun hl => by
  rcases h.2 with ⟨e, h0⟩ | ⟨g, cap, cur, e, _⟩
  · exact absurd (List.eq_nil_of_length_eq_zero h0) hl
  · injection e with e1 e2 e3
    subst e1
    obtain ⟨cur, _, h2, h3, _, _, _, h7⟩ := h.opened
    exact ⟨g, cur, rfl, h3, h7⟩
theorem EL.BoxAt.grown {w w' : World} {B2 : Nat} {A : Option Addr} {l : List α} {v : Value} {ss : List β} (h : E.BoxAt w A l) (hown : F.Own w B2 v ss) (ht : E.t ≠ F.t) (hg : w.grownBy w' v.ownBlock) : E.BoxAt w' A l := fun hl => by
  obtain ⟨g, cur, e, h2, h3⟩ := h hl
  exact ⟨g, cur, e, boxGrown h2 hg (own_ne_typeG hown h2 ht), h3⟩
theorem EL.BoxAt.set {w : World} {g2 i : Nat} {u : Value} {cs : Array Value} {A : Option Addr} {l : List α} (h : E.BoxAt w A l) (hb : Box w g2 F.t cs) (ht : E.t ≠ F.t) : E.BoxAt (w.setCell ⟨g2, i, none⟩ u) A l := fun hl => by
  obtain ⟨g, cur, e, h2, h3⟩ := h hl
  refine ⟨g, cur, e, h2.far (p := ⟨g2, i, none⟩) (fun e => ?_) u, h3⟩
  subst e
  have := h2.symm.trans hb
  simp only [Option.some.injEq, Obj.cells.injEq] at this
  exact ht this.2.1
end
end Go.Par
namespace Go.Proofs.YtkjpcjmbhpfelaaGreat
open Go.RowKit Go.Par Go.Reg

/-- how bands lie -/
def BandsAt (w : World) (ss : List BnS) (B : List Band) : Prop :=
  ss.length = B.length ∧ ∀ (i : Nat) (b : Band), B[i]? = some b → ∃ A n c, ss[i]? = some (b.1, b.2.1, A, n, c) ∧ b.2.2.length = n ∧ n ≤ c ∧ n ≤ 1000000 ∧ runE.BoxAt w A b.2.2
theorem BandsAt.nil (w : World) : BandsAt w [] [] := ⟨rfl, fun i b h => by simp at h⟩
theorem BandsAt.ext {w w' : World} {ss : List BnS} {B : List Band} (h : BandsAt w ss B) (he : Ext w w') : BandsAt w' ss B :=
  ⟨h.1, fun i b hb => by obtain ⟨A, n, c, h1, h2, h3, h4, h5⟩ := h.2 i b hb; exact ⟨A, n, c, h1, h2, h3, h4, h5.ext he⟩⟩
theorem BandsAt.grown {w w' : World} {B2 : Nat} {v : Value} {ss ss' : List BnS} {B : List Band} (h : BandsAt w ss B) (hown : bandE.Own w B2 v ss') (hg : w.grownBy w' v.ownBlock) : BandsAt w' ss B :=
  ⟨h.1, fun i b hb => by obtain ⟨A, n, c, h1, h2, h3, h4, h5⟩ := h.2 i b hb; exact ⟨A, n, c, h1, h2, h3, h4, h5.grown hown (by decide) hg⟩⟩
theorem BandsAt.set {w : World} {B2 g n cap i : Nat} {u : Value} {ss ss' : List BnS} {B : List Band} (h : BandsAt w ss B) (hown : bandE.Own w B2 (.slice (some ⟨g, 0, none⟩) n cap) ss') : BandsAt (w.setCell ⟨g, i, none⟩ u) ss B :=
  ⟨h.1, fun j b hb => by
    obtain ⟨A, n, c, h1, h2, h3, h4, h5⟩ := h.2 j b hb
    obtain ⟨cur, _, _, hB, _⟩ := hown.opened
    exact ⟨A, n, c, h1, h2, h3, h4, h5.set (F := bandE) hB (by decide)⟩⟩
theorem BandsAt.snoc {w : World} {ss : List BnS} {B : List Band} {a lo : Int} {A : Option Addr} {n c : Nat} {rs : List Run} (h : BandsAt w ss B) (hn : rs.length = n) (hc : n ≤ c) (hb : n ≤ 1000000) (hr : runE.BoxAt w A rs) : BandsAt w (ss ++ [(a, lo, A, n, c)]) (B ++ [(a, lo, rs)]) := by
  refine ⟨by simp [h.1], fun i q hq => ?_⟩
  by_cases hi : i < B.length
  · rw [List.getElem?_append_left hi] at hq
    obtain ⟨A, n, c, k1, k2⟩ := h.2 i q hq
    exact ⟨A, n, c, by rw [List.getElem?_append_left (by rw [h.1]; exact hi)]; exact k1, k2⟩
  · rw [List.getElem?_append_right (by omega)] at hq
    have h0 : i - B.length = 0 := by
      have := (List.getElem?_eq_some_iff.1 hq).1
      simp at this
      omega
    rw [h0] at hq
    simp only [List.getElem?_cons_zero, Option.some.injEq] at hq
    subst hq
    exact ⟨A, n, c, by rw [List.getElem?_append_right (by rw [h.1]; omega), h.1, h0]; rfl, hn, hc, hb, hr⟩
/-- the last band opened -/
theorem BandsAt.last {w : World} {ss : List BnS} {B : List Band} {a lo : Int} {rs : List Run} (h : BandsAt w ss (B ++ [(a, lo, rs)])) : ∃ ss' A n c, ss = ss' ++ [(a, lo, A, n, c)] ∧ ss'.length = B.length ∧ rs.length = n ∧ n ≤ c ∧ n ≤ 1000000 ∧ runE.BoxAt w A rs ∧ BandsAt w ss' B := by
  obtain ⟨A, n, c, h1, h2, h3, h4, h5⟩ := h.2 B.length (a, lo, rs) (by simp)
  have hl := h.1
  rw [List.length_append, List.length_singleton] at hl
  have e : ss = ss.take B.length ++ [(a, lo, A, n, c)] := by
    rw [← take_snocG h1, List.take_of_length_le (by omega)]
  refine ⟨ss.take B.length, A, n, c, e, by rw [List.length_take]; omega, h2, h3, h4, h5, by rw [List.length_take]; omega, fun i b hb => ?_⟩
  have hi := (List.getElem?_eq_some_iff.1 hb).1
  obtain ⟨A', n', c', k1, k2⟩ := h.2 i b (by rw [List.getElem?_append_left hi]; exact hb)
  exact ⟨A', n', c', by rw [List.getElem?_take, if_pos hi]; exact k1, k2⟩
theorem sorted_len {l : List Int} (h : l.Pairwise (· < ·)) {lo hi : Int} (hb : ∀ v ∈ l, lo ≤ v ∧ v ≤ hi) (hlh : lo ≤ hi + 1) : (l.length : Int) ≤ hi + 1 - lo := by
  induction l generalizing lo with
  | nil => simp; omega
  | cons r R ih =>
    have k1 := hb r List.mem_cons_self
    have := ih (lo := r + 1) (List.pairwise_cons.1 h).2 (fun q hq => ⟨by have := (List.pairwise_cons.1 h).1 q hq; omega, (hb q (List.mem_cons_of_mem _ hq)).2⟩) (by omega)
    rw [List.length_cons]
    omega
theorem edgesY_bd {l : List R4} {v : Int} (h : v ∈ edgesY l) : -4096 ≤ v ∧ v ≤ 4096 := by
  obtain ⟨r, _, hr⟩ := List.mem_flatMap.1 h
  cases he : rectEmptyS r
  · rw [he] at hr
    have := empty_false he
    simp at hr
    omega
  · rw [he] at hr; cases hr
/-- the runs of a row, as a value -/
def RowV (l : List R4) (y : Int) (v : Value) (w : World) : Prop := ∃ R A n c, v = .slice A n c ∧ R.length = n ∧ n ≤ c ∧ n ≤ 100000 ∧ runE.BoxAt w A R ∧ RowIs R l y
theorem RowV.stable (l : List R4) (y : Int) : Stable (RowV l y) := fun v w w' ⟨R, A, n, c, h1, h2, h3, h4, h5, h6⟩ he => ⟨R, A, n, c, h1, h2, h3, h4, h5.ext he, h6⟩
def RunsV (T : Int → Bool) (v : Value) (w : World) : Prop := ∃ R A n c, v = .slice A n c ∧ R.length = n ∧ n ≤ c ∧ n ≤ 1000000 ∧ runE.BoxAt w A R ∧ OKR R ∧ ∀ x, inRuns R x = T x
theorem RunsV.stable (T : Int → Bool) : Stable (RunsV T) := fun v w w' ⟨R, A, n, c, h1, h2, h3, h4, h5, h6⟩ he => ⟨R, A, n, c, h1, h2, h3, h4, h5.ext he, h6⟩
set_option maxRecDepth 100000 in
set_option maxHeartbeats 3200000 in
theorem bands_any (a b : List R4) (A1 A2 : Option Addr) (n1 c1 n2 c2 : Nat) (f : FuncId) (keep : Bool → Bool → Bool) (w : World) (hn1 : a.length = n1) (hn2 : b.length = n2) (hb1 : n1 ≤ 100000) (hb2 : n2 ≤ 100000)
    (h1 : rectE.At w A1 a) (h2 : rectE.At w A2 b) (hK : KeepF f keep) (hk0 : keep false false = false) :
    Calls Tryz.prog 28 #[.slice A1 n1 c1, .slice A2 n2 c2, .func (.func f) #[] #[]] w fun e w' => ∃ v ss B, e = .returned v ∧ Ext w w' ∧ bandE.Own w' w.heap.size v ss ∧ BandsAt w' ss B ∧ OKB B ∧ ∀ x y, inB B x y = keepS keep a b x y := by
  have HN1 := Lib.hid hn1
  have HN2 := Lib.hid hn2
  have HCON := Lib.hid (fun (W : World) (bb : Nat) (k : Ext w W) (hB : Box W bb 22 #[.slice A1 n1 c1, .slice A2 n2 c2]) => cuts_any [a, b] [(A1, n1, c1), (A2, n2, c2)] (some ⟨bb, 0, none⟩) 2 2 W rfl (by omega) (EL.At.box hB fun j v hv => by simpa [EL.cells, slE] using hv) ⟨rfl, fun i l hl => by
    match i with
    | 0 => simp at hl; subst hl; exact ⟨A1, n1, c1, rfl, HN1.out, by omega, h1.ext k⟩
    | 1 => simp at hl; subst hl; exact ⟨A2, n2, c2, rfl, HN2.out, by omega, h2.ext k⟩
    | i + 2 => simp at hl⟩ (by simp; rw [HN1.out, HN2.out]; omega))
  have HRA := Lib.hid (fun (W : World) (y : Int) (k : Ext w W) => (row_any a A1 n1 c1 y W HN1.out (by omega) (h1.ext k)).mono (R' := fun e w' => ∃ v, e = .returned v ∧ Ext W w' ∧ RowV a y v w') fun e w' ⟨v, R, k1, k2, k3, k4, k5⟩ => by
    obtain ⟨A, c, rfl, hc, _⟩ := k3.len
    exact ⟨_, k1, k2, R, A, R.length, c, rfl, rfl, hc, by omega, EL.BoxAt.of_own k3, k5⟩)
  have HRB := Lib.hid (fun (W : World) (y : Int) (k : Ext w W) => (row_any b A2 n2 c2 y W HN2.out (by omega) (h2.ext k)).mono (R' := fun e w' => ∃ v, e = .returned v ∧ Ext W w' ∧ RowV b y v w') fun e w' ⟨v, R, k1, k2, k3, k4, k5⟩ => by
    obtain ⟨A, c, rfl, hc, _⟩ := k3.len
    exact ⟨_, k1, k2, R, A, R.length, c, rfl, rfl, hc, by omega, EL.BoxAt.of_own k3, k5⟩)
  have HBO := Lib.hid (fun (W : World) (y : Int) (v1 v2 : Value) (k1 : RowV a y v1 W) (k2 : RowV b y v2 W) => show Calls Tryz.prog 46 #[v1, v2, .func (.func f) #[] #[]] W (fun e w' => ∃ v, e = .returned v ∧ Ext W w' ∧ RunsV (fun x => keepS keep a b x y) v w') from by
    obtain ⟨R1, B1, m1, d1, rfl, e1, l1, b1, x1, i1⟩ := k1
    obtain ⟨R2, B2, m2, d2, rfl, e2, l2, b2, x2, i2⟩ := k2
    refine (both_any R1 R2 B1 B2 m1 d1 m2 d2 f keep W e1 e2 l1 l2 (by omega) (by omega) x1.at x2.at hK hk0).mono ?_
    rintro e w' ⟨v, R, k1, k2, k3, k4, k5, k6⟩
    obtain ⟨A, c, rfl, hc, _⟩ := k3.len
    refine ⟨_, k1, k2, R, A, R.length, c, rfl, rfl, hc, by omega, EL.BoxAt.of_own k3, k5, fun x => ?_⟩
    rw [k6, i1.2, i2.2]; rfl)
  have HK0 := Lib.hid hk0
  clear hn1 hn2 h1 h2 hK hk0
  have hE0 := Ext.alloc w (.cells #[.slice A1 n1 c1, .slice A2 n2 c2] 22)
  have b0 := Box.new w 22 #[.slice A1 n1 c1, .slice A2 n2 c2]
  go_enter Tryz.func28, Tryz.ntmps28
  go_wp2_with fail
  refine (HCON.out _ _ hE0 b0).mono ?_
  rintro e w3 ⟨v, ys, rfl, hE1, hown, hys, hmem⟩
  have hef : [a, b].flatten = a ++ b := by simp
  rw [hef] at hmem
  have hE3 := hE0.trans hE1
  obtain ⟨M, hM⟩ : ∃ M, ys.length = M := ⟨_, rfl⟩
  have HM := Lib.hid hM
  have hMN : M ≤ 8193 := by
    have := sorted_len hys (lo := -4096) (hi := 4096) (fun v hv => edgesY_bd ((hmem v).1 hv)) (by omega)
    omega
  have hmm : ∀ v, v ∈ edgesY a ∨ v ∈ edgesY b → v ∈ ys := fun v hv => by
    rw [hmem, edgesY_append, List.mem_append]; exact hv
  have HCUT := Lib.hid (cuts_rows hys HK0.out (fun v hv => hmm v (.inl hv)) (fun v hv => hmm v (.inr hv)))
  obtain ⟨A5, c5, rfl, hMc5, hat5⟩ := hown.at hM (by omega)
  clear hE0 hE1 hown hys hmem hmm hef hM b0
  go_wp2_with fail
  go_loopw [8, 9] (fun s i wr => ∃ (k : Nat) (ss : List BnS) (B : List Band), (k < M ∨ (k = 0 ∧ M = 0)) ∧ i = .int .i64 k ∧ Ext w3 wr ∧ bandE.Own wr w3.heap.size s ss ∧ BandsAt wr ss B ∧ B.length ≤ k ∧ Hid (BandsTo ys (fun y x => keepS keep a b x y) k B)) (fun _ i _ => M - (intOf i).toNat)
  case atStart => exact ⟨0, [], [], by omega, rfl, Ext.refl _, EL.Own.nil _ _, BandsAt.nil _, Nat.le_refl _, Lib.hid (BandsTo.start HCUT.out)⟩
  case round =>
    obtain ⟨k, ss, B, hk, rfl, hE, hown, hba, hBk, HB⟩ := hrel
    have q1 : IntKind.i64.wrap ((k : Int) + 1) = (k : Int) + 1 := IntWalk.i64_in _ (by omega)
    by_cases hlt : k + 1 < M
    · have dk : ((k : Int) + 1 < (M : Int)) = True := eq_true (by omega)
      obtain ⟨lo, hlo⟩ : ∃ q, ys[k]? = some q := ⟨_, List.getElem?_eq_getElem (by rw [HM.out]; omega)⟩
      obtain ⟨hi, hhi⟩ : ∃ q, ys[k + 1]? = some q := ⟨_, List.getElem?_eq_getElem (by rw [HM.out]; omega)⟩
      obtain ⟨bb, o, rfl⟩ := hat5.addr hlo
      have e0 := hE.cell (int_cell hat5 hlo)
      have e1 := hE.cell (int_cell hat5 hhi)
      have HLO := Lib.hid hlo
      have HHI := Lib.hid hhi
      have k1 : k < M := by omega
      have n1' : (0 : Int) ≤ (k : Int) + 1 := by omega
      have n2' : ((k : Int) + 1).toNat = k + 1 := by omega
      clear hlo hhi hk
      have hEw := hE3.trans hE
      go_wp2_with fail
      apply wp_region_par' 14 (by kernel_rfl) (by kernel_rfl) rfl
      simp only [List.take_succ_cons, List.take_zero, List.drop_succ_cons, List.drop_zero]
      generalize hW : World.drew _ = W
      have hEW : Ext wr W := by rw [← hW]; exact Ext.drew _
      clear hW
      have z0 := fun z : Later W => z.cell (hEW.cell e0)
      replace hEw := hEw.trans hEW
      iterate 5
        refine parW_step rfl (fun K hK => ?_)
        apply Exists.intro
        refine ⟨fun z => ?_, ?_⟩
        focus
          go_simp
          first
            | rfl
            | fail
        go_simp
        refine hK _ ?_
        clear hK K
      refine parW_rel rfl (RowV.stable a lo) (fun x => ?_) ?_
      · have hc := HRA.out x.val lo (hEw.later x)
        simp only [Giv]
        go_simp
        exact calls_rel hc
      iterate 5
        refine parW_step rfl (fun K hK => ?_)
        apply Exists.intro
        refine ⟨fun z => ?_, ?_⟩
        focus
          go_simp
          first
            | rfl
            | fail
        go_simp
        refine hK _ ?_
        clear hK K
      refine parW_rel rfl (RowV.stable b lo) (fun x => ?_) ?_
      · intro v0 hv0
        have hc := HRB.out x.val lo (hEw.later x)
        simp only [Giv]
        go_simp
        exact calls_rel hc
      iterate 1
        refine parW_step rfl (fun K hK => ?_)
        apply Exists.intro
        refine ⟨fun z => ?_, ?_⟩
        focus
          go_simp
          first
            | rfl
            | fail
        go_simp
        refine hK _ ?_
        clear hK K
      refine parW_rel rfl (RunsV.stable (fun x => keepS keep a b x lo)) (fun x => ?_) ?_
      · intro v1 hv1 v2 hv2
        have g1 := hv1 (show Nat.testBit _ _ = true from by kernel_rfl)
        have g2 := hv2 (show Nat.testBit _ _ = true from by kernel_rfl)
        have hc := HBO.out x.val lo v1 v2 g1 g2
        simp only [Giv]
        go_simp
        exact calls_rel hc
      refine parW_fin (fun z => ?_)
      rintro v1 hv1 v2 hv2 v3 ⟨rs, A10, n10, c10, rfl, hrl, hrc, hrb, hrx, hro, hri⟩ hp
      simp only [Act.put, List.setIfInBounds_toArray, List.set_cons_succ, List.set_cons_zero]
      clear hv1 hv2 hp
      have hEz := hEW.later z
      clear z0 hEw
      replace e0 := hEz.cell e0
      replace e1 := hEz.cell e1
      replace hE := hE.trans hEz
      replace hown := hown.ext hEz
      replace hba := hba.ext hEz
      clear hEz hEW
      generalize z.val = Z at *
      clear z
      have HRL := Lib.hid hrl
      have HRI := Lib.hid hri
      have HRO := Lib.hid hro
      clear hrl hri hro
      by_cases hz : n10 = 0
      · subst hz
        have hrs : rs = [] := List.eq_nil_of_length_eq_zero HRL.out
        have HB2 := Lib.hid (HB.out.skip HCUT.out HLO.out HHI.out (fun x => by have := HRI.out x; rw [hrs] at this; exact this))
        clear hrs
        go_wp2
        go_roundw
        case rel => exact ⟨k + 1, ss, B, .inl hlt, by go_num, hE, hown, hba, by omega, HB2⟩
        case measure => simp [intOf]; omega
      · have dz : (n10 = 0) = False := eq_false hz
        have HNE := Lib.hid (show rs ≠ [] from fun e => hz (by rw [← HRL.out, e]; rfl))
        rcases List.eq_nil_or_concat B with e | ⟨B', ⟨a0, l0, rs'⟩, e⟩
        · subst e
          have e2 : ss = [] := List.eq_nil_of_length_eq_zero hba.1
          subst e2
          obtain ⟨A6, c6, rfl, _, _⟩ := hown.len
          have HB2 := Lib.hid (HB.out.push HCUT.out HLO.out HHI.out (fun x => HRI.out x) HRO.out HNE.out (fun r hr => by cases hr))
          go_wp2_with fail
          apply wp_region_par' 25 (by kernel_rfl) (by kernel_rfl) rfl
          simp only [List.take_succ_cons, List.take_zero, List.drop_succ_cons, List.drop_zero]
          generalize hW : World.drew _ = W2
          have hEW : Ext Z W2 := by rw [← hW]; exact Ext.drew _
          clear hW
          have z0 := fun z : Later W2 => z.cell (hEW.cell e0)
          iterate 25
            refine parW_step rfl (fun K hK => ?_)
            apply Exists.intro
            refine ⟨fun z => ?_, ?_⟩
            focus
              go_simp
              first
                | rfl
                | fail
            go_simp
            refine hK _ ?_
            clear hK K
          refine parW_end (fun z => ?_)
          have hEz := hEW.later z
          clear z0
          replace e0 := hEz.cell e0
          replace e1 := hEz.cell e1
          replace hE := hE.trans hEz
          replace hown := hown.ext hEz
          replace hba := hba.ext hEz
          replace hrx := hrx.ext hEz
          generalize z.val = Z1 at *
          clear z hEz hEW
          go_wp2_with fail
          apply wp_region_par' 13 (by kernel_rfl) (by kernel_rfl) rfl
          simp only [List.take_succ_cons, List.take_zero, List.drop_succ_cons, List.drop_zero]
          generalize hW2 : World.drew _ = W3
          have hEW2 : Ext Z1 W3 := by rw [← hW2]; exact Ext.drew _
          clear hW2
          have z0 := fun z : Later W3 => z.cell (hEW2.cell e0)
          have z1 := fun z : Later W3 => z.cell (hEW2.cell e1)
          iterate 12
            refine parW_step rfl (fun K hK => ?_)
            apply Exists.intro
            refine ⟨fun z => ?_, ?_⟩
            focus
              go_simp
              first
                | rfl
                | fail
            go_simp
            refine hK _ ?_
            clear hK K
          refine parW_newRow (t := 89) (n := 1) (cs := #[.int .i64 lo, .int .i64 hi, .slice A10 n10 c10]) rfl rfl rfl (by simp) (fun w1 => by kernel_rfl) ?_
          refine parW_fin (fun z => ?_)
          rintro v1 ⟨b0, rfl, hb0, hbx⟩ hp
          clear hp
          have hEz := hEW2.later z
          clear z0 z1
          replace hE := hE.trans hEz
          replace hown := hown.ext hEz
          replace hba := hba.ext hEz
          replace hrx := hrx.ext hEz
          have hrow := EL.rowOne (E := bandE) (x := (lo, hi, A10, n10, c10)) hbx rfl
          generalize z.val = Z2 at *
          clear z hEz hEW2
          have hsz := hE.size
          have hba2 := hba.snoc (a := lo) (lo := hi) HRL.out hrc hrb hrx
          go_wp2_with (at_builtin; refine EL.wpApp bandE rfl _ _ rfl w3.heap.size _ _ [] [(lo, hi, A10, n10, c10)] rfl rfl hown hrow (by simp) hsz ?_; intro v1 W1 own1 gr1 _)
          have hE4 := growExt hE hown (Nat.le_refl _) gr1
          have hba3 := hba2.grown hown gr1
          go_roundw
          case rel => exact ⟨k + 1, _, _, .inl hlt, by go_num, hE4, own1, hba3, by simp, HB2⟩
          case measure => simp [intOf]; omega
        · rw [List.concat_eq_append] at e
          subst e
          obtain ⟨ss', A', n', c', rfl, hsl, hrl', hrc', hrb', hrx', hba'⟩ := hba.last
          have hss := hba.1
          obtain ⟨g, cap, rfl, hgB, hcap⟩ := hown.head (by simp)
          obtain ⟨m, hm⟩ : ∃ m, ss'.length = m := ⟨_, rfl⟩
          have hlen : (ss' ++ [(a0, l0, A', n', c')]).length = m + 1 := by simp [hm]
          have y0 := hown.cell (i := m) (j := 1) (x := (a0, l0, A', n', c')) (by rw [← hm]; simp) rfl
          have y1 := hown.cell (i := m) (j := 2) (x := (a0, l0, A', n', c')) (by rw [← hm]; simp) rfl
          have e2s : bandE.size = 3 := rfl
          rw [e2s] at y0 y1
          have hmk : m + 1 ≤ k := by rw [← hlen, hss]; exact hBk
          obtain ⟨N2, hN2⟩ : ∃ N2, (ss' ++ [(a0, l0, A', n', c')]).length = N2 := ⟨_, rfl⟩
          have hN2m : N2 = m + 1 := by rw [← hN2, hlen]
          rw [hN2] at hown hcap ⊢
          have w1' : IntKind.i64.wrap ((N2 : Int) - 1) = (m : Int) := (IntWalk.i64_in _ (by omega)).trans (by omega)
          have p0 : 0 < N2 := by omega
          have p1 : m < N2 := by omega
          have HN2' := Lib.hid hN2
          have HN2m := Lib.hid hN2m
          have HM2 := Lib.hid hm
          have HSL := Lib.hid hsl
          have HRL' := Lib.hid hrl'
          have HEQ := Lib.hid (fun (W : World) (kk : Ext Z W) => eqRun_any rs' rs A' A10 c' c10 n' n10 W HRL'.out HRL.out (by omega) (by omega) ((hrx'.ext kk).at) ((hrx.ext kk).at))
          have HLL := Lib.hid (show (ss' ++ [(a0, l0, A', n', c')]).length + ([(lo, hi, A10, n10, c10)] : List BnS).length ≤ 1000000000 from by rw [HN2'.out, HN2m.out]; simp; omega)
          have HBL := Lib.hid (show ((B' ++ [(a0, l0, rs')]) ++ [(lo, hi, rs)]).length ≤ k + 1 from by rw [List.length_append]; simp at hBk ⊢; omega)
          clear hN2 hN2m hlen hm e2s hsl hrl' hss
          by_cases hfl : l0 = lo
          · by_cases hrr : rs' = rs
            · rw [decide_eq_true hrr] at HEQ
              subst hrr
              subst hfl
              have HB2 := Lib.hid (BandsTo.grow HB.out HCUT.out HLO.out HHI.out (fun x => HRI.out x))
              have d1 : (l0 == l0) = true := by simp
              go_wp2_with fail
              apply wp_region_par' 25 (by kernel_rfl) (by kernel_rfl) rfl
              simp only [List.take_succ_cons, List.take_zero, List.drop_succ_cons, List.drop_zero]
              generalize hW : World.drew _ = W2
              have hEW : Ext Z W2 := by rw [← hW]; exact Ext.drew _
              clear hW
              have z0 := fun z : Later W2 => z.cell (hEW.cell e0)
              have z1 := fun z : Later W2 => z.cell (hEW.cell y0)
              have z2 := fun z : Later W2 => z.cell (hEW.cell y1)
              iterate 25
                refine parW_step rfl (fun K hK => ?_)
                apply Exists.intro
                refine ⟨fun z => ?_, ?_⟩
                focus
                  go_simp
                  first
                    | rfl
                    | with_reducible exact calls_val (HEQ.out _ (hEW.later z))
                go_simp
                refine hK _ ?_
                clear hK K
              refine parW_end (fun z => ?_)
              have hEz := hEW.later z
              clear z0 z1 z2
              replace e0 := hEz.cell e0
              replace e1 := hEz.cell e1
              replace hE := hE.trans hEz
              replace hown := hown.ext hEz
              replace hba := hba.ext hEz
              replace hrx := hrx.ext hEz
              replace hrx' := hrx'.ext hEz
              replace hba' := hba'.ext hEz
              replace y0 := hEz.cell y0
              generalize z.val = Z1 at *
              clear z hEz hEW
              have yf := hown.frozen (i := m * 3 + 1)
              have hset := hown.setAt (i := m) (j := 1) (x := (a0, l0, A', n', c')) (y := (a0, hi, A', n', c')) (v := .int .i64 hi) (by rw [← HM2.out]; simp) (by decide) rfl
              have e3 : (ss' ++ [(a0, l0, A', n', c')]).set m (a0, hi, A', n', c') = ss' ++ [(a0, hi, A', n', c')] := by rw [← HM2.out]; exact set_last _ _ _
              rw [e3] at hset
              have hbs := (hba'.snoc (a := a0) (lo := hi) HRL'.out hrc' hrb' hrx').set (i := m * 3 + 1) (u := .int .i64 hi) hown
              have hE4 := hE.setNew (b := g) hgB (m * 3 + 1) (.int .i64 hi)
              have HSET := Lib.hid hset
              have HBS := Lib.hid hbs
              clear hset e3 hown hbs
              go_wp2
              go_roundw
              case rel => exact ⟨k + 1, _, B' ++ [(a0, hi, rs')], .inl hlt, by go_num, hE4, HSET.out, HBS.out, by simp at hBk ⊢; omega, HB2⟩
              case measure => simp [intOf]; omega
            · rw [decide_eq_false hrr] at HEQ
              have HB2 := Lib.hid (HB.out.push HCUT.out HLO.out HHI.out (fun x => HRI.out x) HRO.out HNE.out (fun r hr e => by
                rw [List.getLast?_append] at hr
                simp at hr
                subst hr
                exact hrr))
              subst hfl
              have d1 : (l0 == l0) = true := by simp
              clear hrr
              go_wp2_with fail
              apply wp_region_par' 25 (by kernel_rfl) (by kernel_rfl) rfl
              simp only [List.take_succ_cons, List.take_zero, List.drop_succ_cons, List.drop_zero]
              generalize hW : World.drew _ = W2
              have hEW : Ext Z W2 := by rw [← hW]; exact Ext.drew _
              clear hW
              have z0 := fun z : Later W2 => z.cell (hEW.cell e0)
              have z1 := fun z : Later W2 => z.cell (hEW.cell y0)
              have z2 := fun z : Later W2 => z.cell (hEW.cell y1)
              iterate 25
                refine parW_step rfl (fun K hK => ?_)
                apply Exists.intro
                refine ⟨fun z => ?_, ?_⟩
                focus
                  go_simp
                  first
                    | rfl
                    | with_reducible exact calls_val (HEQ.out _ (hEW.later z))
                go_simp
                refine hK _ ?_
                clear hK K
              refine parW_end (fun z => ?_)
              have hEz := hEW.later z
              clear z0 z1 z2
              replace e0 := hEz.cell e0
              replace e1 := hEz.cell e1
              replace hE := hE.trans hEz
              replace hown := hown.ext hEz
              replace hba := hba.ext hEz
              replace hrx := hrx.ext hEz
              generalize z.val = Z1 at *
              clear z hEz hEW
              go_wp2_with fail
              apply wp_region_par' 13 (by kernel_rfl) (by kernel_rfl) rfl
              simp only [List.take_succ_cons, List.take_zero, List.drop_succ_cons, List.drop_zero]
              generalize hW2 : World.drew _ = W3
              have hEW2 : Ext Z1 W3 := by rw [← hW2]; exact Ext.drew _
              clear hW2
              have z0 := fun z : Later W3 => z.cell (hEW2.cell e0)
              have z1 := fun z : Later W3 => z.cell (hEW2.cell e1)
              iterate 12
                refine parW_step rfl (fun K hK => ?_)
                apply Exists.intro
                refine ⟨fun z => ?_, ?_⟩
                focus
                  go_simp
                  first
                    | rfl
                    | fail
                go_simp
                refine hK _ ?_
                clear hK K
              refine parW_newRow (t := 89) (n := 1) (cs := #[.int .i64 l0, .int .i64 hi, .slice A10 n10 c10]) rfl rfl rfl (by simp) (fun w1 => by kernel_rfl) ?_
              refine parW_fin (fun z => ?_)
              rintro v1 ⟨b0, rfl, hb0, hbx⟩ hp
              clear hp
              have hEz := hEW2.later z
              clear z0 z1
              replace hE := hE.trans hEz
              replace hown := hown.ext hEz
              replace hba := hba.ext hEz
              replace hrx := hrx.ext hEz
              have hrow := EL.rowOne (E := bandE) (x := (l0, hi, A10, n10, c10)) hbx rfl
              generalize z.val = Z2 at *
              clear z hEz hEW2
              have hsz := hE.size
              have hba2 := hba.snoc (a := l0) (lo := hi) HRL.out hrc hrb hrx
              go_wp2_with (at_builtin; refine EL.wpApp bandE rfl _ _ rfl w3.heap.size _ _ (ss' ++ [(a0, l0, A', n', c')]) [(l0, hi, A10, n10, c10)] rfl rfl hown hrow HLL.out hsz ?_; intro v1 W1 own1 gr1 _)
              have hE4 := growExt hE hown (Nat.le_refl _) gr1
              have hba3 := hba2.grown hown gr1
              go_roundw
              case rel => exact ⟨k + 1, _, _, .inl hlt, by go_num, hE4, own1, hba3, HBL.out, HB2⟩
              case measure => simp [intOf]; omega
          · have HB2 := Lib.hid (HB.out.push HCUT.out HLO.out HHI.out (fun x => HRI.out x) HRO.out HNE.out (fun r hr e => by
              rw [List.getLast?_append] at hr
              simp at hr
              subst hr
              exact absurd e hfl))
            have d1 : (l0 == lo) = false := by simpa using hfl
            have d2 : (l0 = lo) = False := eq_false hfl
            clear hfl
            go_wp2_with fail
            apply wp_region_par' 25 (by kernel_rfl) (by kernel_rfl) rfl
            simp only [List.take_succ_cons, List.take_zero, List.drop_succ_cons, List.drop_zero]
            generalize hW : World.drew _ = W2
            have hEW : Ext Z W2 := by rw [← hW]; exact Ext.drew _
            clear hW
            have z0 := fun z : Later W2 => z.cell (hEW.cell e0)
            have z1 := fun z : Later W2 => z.cell (hEW.cell y0)
            iterate 25
              refine parW_step rfl (fun K hK => ?_)
              apply Exists.intro
              refine ⟨fun z => ?_, ?_⟩
              focus
                go_simp
                first
                  | rfl
                  | fail
              go_simp
              refine hK _ ?_
              clear hK K
            refine parW_end (fun z => ?_)
            have hEz := hEW.later z
            clear z0 z1
            replace e0 := hEz.cell e0
            replace e1 := hEz.cell e1
            replace hE := hE.trans hEz
            replace hown := hown.ext hEz
            replace hba := hba.ext hEz
            replace hrx := hrx.ext hEz
            generalize z.val = Z1 at *
            clear z hEz hEW
            go_wp2_with fail
            apply wp_region_par' 13 (by kernel_rfl) (by kernel_rfl) rfl
            simp only [List.take_succ_cons, List.take_zero, List.drop_succ_cons, List.drop_zero]
            generalize hW2 : World.drew _ = W3
            have hEW2 : Ext Z1 W3 := by rw [← hW2]; exact Ext.drew _
            clear hW2
            have z0 := fun z : Later W3 => z.cell (hEW2.cell e0)
            have z1 := fun z : Later W3 => z.cell (hEW2.cell e1)
            iterate 12
              refine parW_step rfl (fun K hK => ?_)
              apply Exists.intro
              refine ⟨fun z => ?_, ?_⟩
              focus
                go_simp
                first
                  | rfl
                  | fail
              go_simp
              refine hK _ ?_
              clear hK K
            refine parW_newRow (t := 89) (n := 1) (cs := #[.int .i64 lo, .int .i64 hi, .slice A10 n10 c10]) rfl rfl rfl (by simp) (fun w1 => by kernel_rfl) ?_
            refine parW_fin (fun z => ?_)
            rintro v1 ⟨b0, rfl, hb0, hbx⟩ hp
            clear hp
            have hEz := hEW2.later z
            clear z0 z1
            replace hE := hE.trans hEz
            replace hown := hown.ext hEz
            replace hba := hba.ext hEz
            replace hrx := hrx.ext hEz
            have hrow := EL.rowOne (E := bandE) (x := (lo, hi, A10, n10, c10)) hbx rfl
            generalize z.val = Z2 at *
            clear z hEz hEW2
            have hsz := hE.size
            have hba2 := hba.snoc (a := lo) (lo := hi) HRL.out hrc hrb hrx
            go_wp2_with (at_builtin; refine EL.wpApp bandE rfl _ _ rfl w3.heap.size _ _ (ss' ++ [(a0, l0, A', n', c')]) [(lo, hi, A10, n10, c10)] rfl rfl hown hrow HLL.out hsz ?_; intro v1 W1 own1 gr1 _)
            have hE4 := growExt hE hown (Nat.le_refl _) gr1
            have hba3 := hba2.grown hown gr1
            go_roundw
            case rel => exact ⟨k + 1, _, _, .inl hlt, by go_num, hE4, own1, hba3, HBL.out, HB2⟩
            case measure => simp [intOf]; omega
    · have dk : ((k : Int) + 1 < (M : Int)) = False := eq_false (by omega)
      obtain ⟨A6, c6, rfl, _, _⟩ := hown.len
      have HEND := Lib.hid (HB.out.end HCUT.out (by rw [HM.out]; omega) (hk.imp (fun h => by rw [HM.out]; exact h) (fun h => List.eq_nil_of_length_eq_zero (by rw [HM.out]; exact h.2))))
      have hw3 := hE3.size
      go_wp2
      go_ret
      exact ⟨_, ss, B, rfl, hE3.trans hE, hown.lower hw3, hba, HEND.out.1, HEND.out.2⟩
end Go.Proofs.YtkjpcjmbhpfelaaGreat
