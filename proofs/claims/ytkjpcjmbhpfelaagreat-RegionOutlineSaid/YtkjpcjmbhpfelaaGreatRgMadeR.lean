/- The reference: made. -/
import Derived.Test.YtkjpcjmbhpfelaaGreatRgRuns
set_option linter.unusedVariables false
set_option linter.unusedSimpArgs false
namespace Go.Proofs.YtkjpcjmbhpfelaaGreat
open Go.RowKit Go.Par Go.Reg

/-- what stands after the first k rows, and the runs of the row before -/
structure MadeTo (ys : List Int) (S : Int → Int → Bool) (k : Nat) (B : List Band) (LR : List Run) : Prop where
  bands : BandsTo ys S k B
  one : ∀ lo, ys[k]? = some lo → LR ≠ [] → ∃ B' a, B = B' ++ [(a, lo, LR)]
  two : ∀ lo, ys[k]? = some lo → ∀ b ∈ B.getLast?, b.2.1 = lo → b.2.2 = LR
theorem MadeTo.start {ys : List Int} {S : Int → Int → Bool} (h : CutsB ys S) : MadeTo ys S 0 [] [] :=
  ⟨BandsTo.start h, fun lo _ e => absurd rfl e, fun lo _ b hb => by cases hb⟩
theorem MadeTo.skip {ys : List Int} {S : Int → Int → Bool} {k : Nat} {B : List Band} {LR : List Run} {lo hi : Int} (h : MadeTo ys S k B LR) (hc : CutsB ys S) (h1 : ys[k]? = some lo) (h2 : ys[k + 1]? = some hi) (hT : ∀ x, inRuns [] x = S lo x) : MadeTo ys S (k + 1) B [] := by
  refine ⟨h.bands.skip hc h1 h2 hT, fun lo _ e => absurd rfl e, fun z hz b hb e => ?_⟩
  have hlt := sorted_lt hc.sorted h1 h2
  rw [h2] at hz; injection hz with hz
  have := h.bands.le lo h1 b (List.mem_of_getLast? hb)
  omega
theorem MadeTo.like {ys : List Int} {S : Int → Int → Bool} {k : Nat} {B : List Band} {LR : List Run} {lo hi : Int} (h : MadeTo ys S k B LR) (hc : CutsB ys S) (h1 : ys[k]? = some lo) (h2 : ys[k + 1]? = some hi) (hT : ∀ x, inRuns LR x = S lo x) :
    ∃ P a B2, rectsB B = P ++ rectsOf (a, lo, []) LR ∧ rectsB B2 = P ++ rectsOf (a, hi, []) LR ∧ MadeTo ys S (k + 1) B2 LR := by
  by_cases hL : LR = []
  · subst hL
    exact ⟨rectsB B, 0, B, by simp [rectsOf], by simp [rectsOf], h.skip hc h1 h2 hT⟩
  · obtain ⟨B', a, rfl⟩ := h.one lo h1 hL
    refine ⟨rectsB B', a, B' ++ [(a, hi, LR)], ?_, ?_, ?_⟩
    · rw [rectsB_append, rectsB_one]; rfl
    · rw [rectsB_append, rectsB_one]; rfl
    · refine ⟨BandsTo.grow h.bands hc h1 h2 hT, fun z hz _ => ⟨B', a, ?_⟩, fun z hz b hb e => ?_⟩
      · rw [h2] at hz; injection hz with hz; rw [hz]
      · rw [List.getLast?_append] at hb; simp at hb; subst hb; rfl
theorem MadeTo.unlike {ys : List Int} {S : Int → Int → Bool} {k : Nat} {B : List Band} {LR rs : List Run} {lo hi : Int} (h : MadeTo ys S k B LR) (hc : CutsB ys S) (h1 : ys[k]? = some lo) (h2 : ys[k + 1]? = some hi) (hT : ∀ x, inRuns rs x = S lo x) (hok : OKR rs) (hne : rs ≠ LR) :
    ∃ B2, rectsB B2 = rectsB B ++ rectsOf (lo, hi, []) rs ∧ MadeTo ys S (k + 1) B2 rs := by
  by_cases hL : rs = []
  · subst hL
    exact ⟨B, by simp [rectsOf], h.skip hc h1 h2 hT⟩
  · refine ⟨B ++ [(lo, hi, rs)], ?_, ?_⟩
    · rw [rectsB_append, rectsB_one]; rfl
    · refine ⟨BandsTo.push h.bands hc h1 h2 hT hok hL (fun b hb e e2 => hne (by rw [← e2]; exact h.two lo h1 b hb e)), fun z hz _ => ⟨B, lo, ?_⟩, fun z hz b hb e => ?_⟩
      · rw [h2] at hz; injection hz with hz; rw [hz]
      · rw [List.getLast?_append] at hb; simp at hb; subst hb; rfl
/-- the last rectangles, the first t of them grown -/
def midR (P : List R4) (a lo hi : Int) (rs : List Run) (t : Nat) : List R4 := P ++ (rectsOf (a, hi, []) (rs.take t) ++ rectsOf (a, lo, []) (rs.drop t))
theorem midR_zero (P : List R4) (a lo hi : Int) (rs : List Run) : midR P a lo hi rs 0 = P ++ rectsOf (a, lo, []) rs := by simp [midR, rectsOf]
theorem midR_end (P : List R4) (a lo hi : Int) (rs : List Run) {n : Nat} (h : rs.length ≤ n) : midR P a lo hi rs n = P ++ rectsOf (a, hi, []) rs := by
  unfold midR; rw [List.take_of_length_le h, List.drop_of_length_le h]; simp [rectsOf]
theorem midR_len (P : List R4) (a lo hi : Int) (rs : List Run) (t : Nat) : (midR P a lo hi rs t).length = P.length + rs.length := by
  simp only [midR, rectsOf, List.length_append, List.length_map, List.length_take, List.length_drop]; omega
theorem midR_open (P : List R4) (a lo hi : Int) (rs : List Run) {t : Nat} {r : Run} (h : rs[t]? = some r) :
    midR P a lo hi rs t = (P ++ rectsOf (a, hi, []) (rs.take t)) ++ (r.1, a, r.2, lo) :: rectsOf (a, lo, []) (rs.drop (t + 1)) ∧ (P ++ rectsOf (a, hi, []) (rs.take t)).length = P.length + t ∧
    midR P a lo hi rs (t + 1) = (P ++ rectsOf (a, hi, []) (rs.take t)) ++ (r.1, a, r.2, hi) :: rectsOf (a, lo, []) (rs.drop (t + 1)) := by
  obtain ⟨ht, rfl⟩ := List.getElem?_eq_some_iff.1 h
  refine ⟨?_, ?_, ?_⟩
  · unfold midR
    rw [List.drop_eq_getElem_cons ht, List.append_assoc]
    rfl
  · simp only [rectsOf, List.length_append, List.length_map, List.length_take]; omega
  · unfold midR
    rw [take_snocG h]
    simp only [rectsOf, List.map_append, List.map_cons, List.map_nil, List.append_assoc, List.cons_append, List.nil_append]
theorem set_mid {α : Type} (l m : List α) (x y : α) {J : Nat} (h : J = l.length) : (l ++ x :: m).set J y = l ++ y :: m := by
  subst h; simp
theorem midR_get (P : List R4) (a lo hi : Int) (rs : List Run) {t J : Nat} {r : Run} (h : rs[t]? = some r) (hJ : J = P.length + t) : (midR P a lo hi rs t)[J]? = some (r.1, a, r.2, lo) := by
  obtain ⟨e1, e2, _⟩ := midR_open P a lo hi rs h
  rw [e1, List.getElem?_append_right (by omega), e2, hJ, Nat.sub_self]; rfl
theorem midR_set (P : List R4) (a lo hi : Int) (rs : List Run) {t J : Nat} {r : Run} (h : rs[t]? = some r) (hJ : J = P.length + t) : (midR P a lo hi rs t).set J (r.1, a, r.2, hi) = midR P a lo hi rs (t + 1) := by
  obtain ⟨e1, e2, e3⟩ := midR_open P a lo hi rs h
  rw [e1, e3]
  exact set_mid _ _ _ _ (by rw [e2, hJ])
theorem rectsOf_snoc (b : Band) {rs : List Run} {t : Nat} {r : Run} (h : rs[t]? = some r) : rectsOf b (rs.take (t + 1)) = rectsOf b (rs.take t) ++ [(r.1, b.1, r.2, b.2.1)] := by
  rw [take_snocG h]; simp [rectsOf]
set_option maxRecDepth 100000 in
set_option maxHeartbeats 6400000 in
theorem rMade_any (a b : List R4) (A1 A2 : Option Addr) (n1 c1 n2 c2 : Nat) (way : Int) (keep : Bool → Bool → Bool) (w : World) (hn1 : a.length = n1) (hn2 : b.length = n2) (hb1 : n1 ≤ 1000000) (hb2 : n2 ≤ 1000000)
    (h1 : rectE.At w A1 a) (h2 : rectE.At w A2 b) (hw : Way way keep) :
    Calls Tryz.prog 62 #[.slice A1 n1 c1, .slice A2 n2 c2, .int .i64 way] w fun e w' => ∃ v B, e = .returned v ∧ Ext w w' ∧ rectE.Own w' w.heap.size v (rectsB B) ∧ OKB B ∧ ∀ x y, inB B x y = keepS keep a b x y := by
  have HA := Lib.hid (fun (W : World) (k : Ext w W) => rEdges_any a A1 n1 c1 _ _ _ _ W hn1 hb1 (h1.ext k) (SetV.nil W) (SetV.nil W))
  have HB := Lib.hid (fun (W : World) (v1 v2 : Value) (S1 S2 : Int → Prop) (k : Ext w W) (k1 : SetV S1 v1 W) (k2 : SetV S2 v2 W) => rEdges_any b A2 n2 c2 v1 v2 S1 S2 W hn2 hb2 (h2.ext k) k1 k2)
  have HR := Lib.hid (fun (W : World) (A3 : Option Addr) (M c3 : Nat) (xs : List Int) (y : Int) (k : Ext w W) (hM : xs.length = M) (hMb : M ≤ 8193) (h3 : intE.At W A3 xs) (hc : Cuts xs (fun x => keepS keep a b x y) false) =>
    (runs_any a b A1 A2 A3 n1 c1 n2 c2 M c3 way y keep xs W hn1 hn2 hb1 hb2 hM (by omega) (h1.ext k) (h2.ext k) h3 hc hw).mono (R' := fun e w' => ∃ A n c R, e = .returned (.slice A n c) ∧ Ext W w' ∧ R.length = n ∧ n ≤ M ∧ arrE.BoxAt w' A R ∧ OKR R ∧ ∀ x, inRuns R x = keepS keep a b x y) fun e w' ⟨v, R, q1, q2, q3, q4, q5, q6⟩ => by
      obtain ⟨A, c, rfl, hc, _⟩ := q3.len
      exact ⟨A, R.length, c, R, q1, q2, rfl, q4, EL.BoxAt.of_own q3, q5, q6⟩)
  have HK := Lib.hid hw.zero
  clear hn1 hn2 h1 h2 hw
  go_enter Tryz.func62, Tryz.ntmps62
  go_wp2_with fail
  refine (HA.out _ (Ext.refl _)).mono ?_
  rintro e w1 ⟨u1, u2, rfl, k1, s1, s2⟩
  have S1 := Lib.hid s1
  have S2 := Lib.hid s2
  clear s1 s2
  go_wp2_with fail
  refine (HB.out _ _ _ _ _ k1 S1.out S2.out).mono ?_
  rintro e w3 ⟨u3, u4, rfl, k2, s3, s4⟩
  have hE3 := k1.trans k2
  obtain ⟨xs, A7, MX, c7, rfl, hx1, hx2, hx3, hx4, hx5, hx6⟩ := s3
  obtain ⟨ys, A8, MY, c8, rfl, hy1, hy2, hy3, hy4, hy5, hy6⟩ := s4
  have hMX : MX ≤ 8193 := by have := sorted_len hx4 hx6 (by omega); omega
  have hMY : MY ≤ 8193 := by have := sorted_len hy4 hy6 (by omega); omega
  have HCX := Lib.hid (fun y => cuts_cols (a := a) (b := b) (keep := keep) hx4 HK.out (fun v hv => (hx5 v).2 (.inl (.inr hv))) (fun v hv => (hx5 v).2 (.inr hv)) y)
  have HCY := Lib.hid (cuts_rows (a := a) (b := b) (keep := keep) hy4 HK.out (fun v hv => (hy5 v).2 (.inl (.inr hv))) (fun v hv => (hy5 v).2 (.inr hv)))
  have HX1 := Lib.hid hx1
  have HM := Lib.hid hy1
  have HR' := Lib.hid (fun (W : World) (y : Int) (k : Ext w3 W) => HR.out W A7 MX c7 xs y (hE3.trans k) HX1.out hMX (hx3.ext k) (HCX.out y))
  clear k1 k2 S1 S2 HA HB HR hx1 hx3 hx4 hx5 hx6 hy1 hy4 hy5 hy6
  have hE1 := (Ext.alloc w3 (.cells #[] 34)).trans (Ext.alloc _ (.cells #[] 59))
  have hown1 := (EL.Own.made (E := rectE) w3).ext (Ext.alloc _ (.cells #[] 59))
  have HLA0 := Lib.hid (fun W A => (fun h => absurd rfl h : arrE.BoxAt W A []))
  go_wp2_with fail
  go_loopw [9, 10, 11, 12, 13, 14] (fun s9 s10 s11 _ _ _ wr => ∃ (k : Nat) (B : List Band) (A10 : Option Addr) (m c10 : Nat) (LR : List Run), (k < MY ∨ (k = 0 ∧ MY = 0)) ∧ s11 = .int .i64 k ∧ s10 = .slice A10 m c10 ∧ Hid (LR.length = m) ∧ m ≤ 8193 ∧ Ext w3 wr ∧ arrE.BoxAt wr A10 LR ∧ rectE.Own wr w3.heap.size s9 (rectsB B) ∧ Hid ((rectsB B).length ≤ k * 8193) ∧ Hid (MadeTo ys (fun y x => keepS keep a b x y) k B LR)) (fun _ _ i _ _ _ _ => MY - (intOf i).toNat)
  case atStart => exact ⟨0, [], _, 0, _, [], by omega, rfl, rfl, Lib.hid rfl, by omega, hE1, HLA0.out _ _, hown1, Lib.hid (by simp [rectsB]), Lib.hid (MadeTo.start HCY.out)⟩
  case round =>
    clear hE1 hown1
    obtain ⟨k, B, A10, m, c10, LR, hk, rfl, rfl, HLR, hmb, hE, hat10, hown, HL, HB⟩ := hrel
    have q1 : IntKind.i64.wrap ((k : Int) + 1) = (k : Int) + 1 := IntWalk.i64_in _ (by omega)
    by_cases hlt : k + 1 < MY
    · have dk : ((k : Int) + 1 < (MY : Int)) = True := eq_true (by omega)
      obtain ⟨lo, hlo⟩ : ∃ q, ys[k]? = some q := ⟨_, List.getElem?_eq_getElem (by rw [HM.out]; omega)⟩
      obtain ⟨hi, hhi⟩ : ∃ q, ys[k + 1]? = some q := ⟨_, List.getElem?_eq_getElem (by rw [HM.out]; omega)⟩
      obtain ⟨bb, o, rfl⟩ := hy3.addr hlo
      have HC0 := Lib.hid (int_cell hy3 hlo)
      have HC1 := Lib.hid (int_cell hy3 hhi)
      have e0 := hE.cell HC0.out
      have HLO := Lib.hid hlo
      have HHI := Lib.hid hhi
      have k1 : k < MY := by omega
      have n1' : (0 : Int) ≤ (k : Int) + 1 := by omega
      have n2' : ((k : Int) + 1).toNat = k + 1 := by omega
      have HKB := Lib.hid (show k * 8193 + 8193 ≤ 67125249 from by
        have := Nat.mul_le_mul_right 8193 (show k + 1 ≤ 8193 by omega)
        omega)
      clear hlo hhi hk
      go_wp2_with fail
      refine (HR'.out _ lo hE).mono ?_
      rintro e Z ⟨A12, n, c12, rs, rfl, hEz, hrn, hnx, hat12, hok, hval⟩
      replace hE := hE.trans hEz
      replace hown := hown.ext hEz
      replace hat10 := hat10.ext hEz
      have HRN := Lib.hid hrn
      have HOK := Lib.hid hok
      have HVAL := Lib.hid hval
      have HLK := Lib.hid (like_any rs LR A12 A10 c12 c10 n m Z HRN.out HLR.out (by omega) (by omega) hat12.at hat10.at)
      clear hrn hok hval hEz e0
      go_wp2_with fail
      refine HLK.out.mono ?_
      rintro e Z1 ⟨rfl, hEz⟩
      replace hE := hE.trans hEz
      replace hown := hown.ext hEz
      replace hat12 := hat12.ext hEz
      replace hat10 := hat10.ext hEz
      clear hEz HLK
      by_cases hll : rs = LR
      · have HNX := Lib.hid hll
        obtain ⟨P, a0, B2, hP1, hP2, hP3⟩ := HB.out.like HCY.out HLO.out HHI.out (fun x => by rw [← hll]; exact HVAL.out x)
        rw [decide_eq_true hll]
        rw [← hll] at hP1 hP2 hP3
        have HP2 := Lib.hid hP2
        have HP3 := Lib.hid hP3
        have HP1 := Lib.hid hP1
        obtain ⟨p, hp⟩ : ∃ p, P.length = p := ⟨_, rfl⟩
        have HPL := Lib.hid hp
        obtain ⟨N, hN⟩ : ∃ N, p + n = N := ⟨_, rfl⟩
        have HN := Lib.hid hN
        have HBN := Lib.hid (show (rectsB B).length = N from by rw [HP1.out, List.length_append, HPL.out, ← hN, ← HRN.out]; simp [rectsOf])
        have hNb : N ≤ 67125249 := by rw [← HBN.out]; have := HL.out; have := HKB.out; omega
        have w1' : IntKind.i64.wrap ((N : Int) - (n : Int)) = (p : Int) := (IntWalk.i64_in _ (by omega)).trans (by omega)
        have HL2 := Lib.hid (show (rectsB B2).length ≤ (k + 1) * 8193 from by
          have e1 := HBN.out
          have e2 := HL.out
          rw [HP2.out, List.length_append, HPL.out]
          simp only [rectsOf, List.length_map]
          rw [HRN.out]; omega)
        have hmid : rectsB B = midR P a0 lo hi rs 0 := by rw [midR_zero, HP1.out]
        rw [hmid] at hown
        obtain ⟨A9, c9, rfl, hc9⟩ := hown.len
        have hln : (midR P a0 lo hi rs 0).length = N := by rw [← hmid, HBN.out]
        rw [hln] at hown ⊢
        clear hll hP1 hP2 hP3 hp hN hmid hln hc9 hat12
        go_wp2_with fail
        go_loopw [13] (fun j wr => ∃ t J : Nat, t ≤ n ∧ Hid (J = p + t) ∧ j = .int .i64 J ∧ Ext w3 wr ∧ arrE.BoxAt wr A10 LR ∧ rectE.Own wr w3.heap.size (.slice A9 N c9) (midR P a0 lo hi rs t)) (fun j _ => N - (intOf j).toNat)
        case atStart => exact ⟨0, p, Nat.zero_le _, Lib.hid rfl, rfl, hE, hat10, hown⟩
        case round =>
          clear hE hat10 hown
          obtain ⟨t, J, ht, HJ, rfl, hE, hat10, hown⟩ := hrel
          by_cases hlt2 : t < n
          · have hJN : J < N := by rw [HJ.out, ← HN.out]; omega
            have dj : ((J : Int) < (N : Int)) = True := eq_true (by omega)
            obtain ⟨⟨x0, x1⟩, hlj⟩ : ∃ q, rs[t]? = some q := ⟨_, List.getElem?_eq_getElem (by rw [HRN.out]; exact hlt2)⟩
            have hJP : J = P.length + t := by rw [HPL.out, HJ.out]
            have hget := midR_get P a0 lo hi rs hlj hJP
            have hst := midR_set P a0 lo hi rs hlj hJP
            dsimp only at hget hst
            obtain ⟨g, cap, e9, hgB, hcap⟩ := hown.head (by rw [midR_len, HPL.out, HRN.out]; omega)
            injection e9 with e91 e92 e93
            subst e91
            subst e93
            clear e92
            have y0 := hown.cell (i := J) (j := 3) (x := (x0, a0, x1, lo)) hget rfl
            have e2s : rectE.size = 4 := rfl
            rw [e2s] at y0
            have yf := hown.frozen (i := J * 4 + 3)
            have hset := hown.setAt (i := J) (j := 3) (x := (x0, a0, x1, lo)) (y := (x0, a0, x1, hi)) (v := .int .i64 hi) hget (by decide) rfl
            rw [hst, e2s] at hset
            have hBx : ∃ cu, Box wr g 34 cu := by
              obtain ⟨cu, _, _, h, _⟩ := hown.opened
              exact ⟨cu, h⟩
            obtain ⟨cu, hBx⟩ := hBx
            replace hat10 := hat10.set (F := rectE) (i := J * 4 + 3) (u := .int .i64 hi) hBx (by decide)
            have e1 := hE.cell HC1.out
            have hE4 := hE.setNew (b := g) hgB (J * 4 + 3) (.int .i64 hi)
            have HSET := Lib.hid hset
            clear hset hst hget hJP hlj hown hBx e2s hE
            go_wp2
            go_roundw
            case rel => exact ⟨t + 1, J + 1, by omega, Lib.hid (by rw [HJ.out]; omega), by go_num, hE4, hat10, HSET.out⟩
            case measure => simp [intOf]; omega
          · have hJN : ¬ J < N := by rw [HJ.out, ← HN.out]; omega
            have dj : ((J : Int) < (N : Int)) = False := eq_false (by omega)
            have hend : midR P a0 lo hi rs t = rectsB B2 := by rw [midR_end _ _ _ _ _ (by rw [HRN.out]; omega), HP2.out]
            rw [hend] at hown
            clear hend
            go_wp2
            go_roundw
            case rel => exact ⟨k + 1, B2, A10, m, c10, LR, .inl hlt, by go_num, rfl, HLR, hmb, hE, hat10, hown, HL2, by rw [← HNX.out]; exact HP3⟩
            case measure => simp [intOf]; omega
      · obtain ⟨B2, hP2, hP3⟩ := HB.out.unlike HCY.out HLO.out HHI.out (fun x => HVAL.out x) HOK.out hll
        rw [decide_eq_false hll]
        have HP2 := Lib.hid hP2
        have HP3 := Lib.hid hP3
        have HL2 := Lib.hid (show (rectsB B2).length ≤ (k + 1) * 8193 from by
          have e2 := HL.out
          rw [HP2.out, List.length_append]
          simp only [rectsOf, List.length_map]
          rw [HRN.out]; omega)
        clear hll hP2 hP3
        generalize rectsB B = RB at *
        go_wp2_with fail
        go_loopw [9, 14] (fun s j wr => ∃ t : Nat, t ≤ n ∧ j = .int .i64 t ∧ Ext w3 wr ∧ arrE.BoxAt wr A12 rs ∧ rectE.Own wr w3.heap.size s (RB ++ rectsOf (lo, hi, []) (rs.take t))) (fun _ j _ => n - (intOf j).toNat)
        case atStart => exact ⟨0, Nat.zero_le _, rfl, hE, hat12, by simpa [rectsOf] using hown⟩
        case round =>
          clear hE hat12 hown hat10
          obtain ⟨t, ht, rfl, hE, hat12, hown⟩ := hrel
          by_cases hlt2 : t < n
          · have dj : ((t : Int) < (n : Int)) = True := eq_true (by omega)
            obtain ⟨⟨x0, x1⟩, hlj⟩ : ∃ q, rs[t]? = some q := ⟨_, List.getElem?_eq_getElem (by rw [HRN.out]; exact hlt2)⟩
            obtain ⟨b', o', rfl⟩ := hat12.at.addr hlj
            obtain ⟨f0, f1⟩ := arr_cell hat12.at hlj
            have e0 := hE.cell HC0.out
            have e1 := hE.cell HC1.out
            dsimp only at f0 f1
            have HS := Lib.hid (rectsOf_snoc (lo, hi, []) hlj)
            have HLL := Lib.hid (show (RB ++ rectsOf (lo, hi, []) (rs.take t)).length + ([(x0, lo, x1, hi)] : List R4).length ≤ 1000000000 from by
              have := HL.out
              have := HKB.out
              simp only [rectsOf, List.length_append, List.length_map, List.length_take, List.length_singleton]
              omega)
            clear hlj
            generalize hcur : RB ++ rectsOf (lo, hi, []) (rs.take t) = cur at *
            have HCUR := Lib.hid hcur
            clear hcur
            go_wp2_with fail
            apply wp_region_par' 22 (by kernel_rfl) (by kernel_rfl) rfl
            simp only [List.take_succ_cons, List.take_zero, List.drop_succ_cons, List.drop_zero]
            generalize hW2 : World.drew _ = W2
            have hEW2 : Ext wr W2 := by rw [← hW2]; exact Ext.drew _
            clear hW2
            have z0 := fun z : Later W2 => z.cell (hEW2.cell e0)
            have z1 := fun z : Later W2 => z.cell (hEW2.cell e1)
            have z2 := fun z : Later W2 => z.cell (hEW2.cell f0)
            have z3 := fun z : Later W2 => z.cell (hEW2.cell f1)
            iterate 21
              refine parW_step rfl (fun K hK => ?_)
              apply Exists.intro
              refine ⟨fun z => ?_, ?_⟩
              focus
                go_simp
                first
                  | rfl
                  | fail
              go_simp
              refine hK _ ?_
              clear hK K
            refine parW_newRow (t := 34) (n := 1) (cs := #[.int .i64 x0, .int .i64 lo, .int .i64 x1, .int .i64 hi]) rfl rfl rfl (by simp) (fun w1 => by kernel_rfl) ?_
            refine parW_fin (fun z => ?_)
            rintro v1 ⟨b0, rfl, hb0, hbx⟩ hp
            clear hp
            have hEz := hEW2.later z
            clear z0 z1 z2 z3
            replace hE := hE.trans hEz
            replace hown := hown.ext hEz
            replace hat12 := hat12.ext hEz
            have hrow := EL.rowOne (E := rectE) (x := (x0, lo, x1, hi)) hbx rfl
            generalize z.val = Z2 at *
            clear z hEz hEW2
            have hsz := hE.size
            go_wp2_with (at_builtin; refine EL.wpApp rectE rfl _ _ rfl w3.heap.size _ _ cur [(x0, lo, x1, hi)] rfl rfl hown hrow HLL.out hsz ?_; intro v1 W1 own1 gr1 _)
            have hE4 := growExt hE hown (Nat.le_refl _) gr1
            have hat4 := hat12.grown hown (by decide) gr1
            go_roundw
            case rel => exact ⟨t + 1, by omega, by go_num, hE4, hat4, by rw [HS.out, ← List.append_assoc, HCUR.out]; exact own1⟩
            case measure => simp [intOf]; omega
          · have dj : ((t : Int) < (n : Int)) = False := eq_false (by omega)
            have hend : RB ++ rectsOf (lo, hi, []) (rs.take t) = rectsB B2 := by rw [List.take_of_length_le (by rw [HRN.out]; omega), HP2.out]
            rw [hend] at hown
            clear hend
            go_wp2
            go_roundw
            case rel => exact ⟨k + 1, B2, A12, n, c12, rs, .inl hlt, by go_num, rfl, HRN, by omega, hE, hat12, hown, HL2, HP3⟩
            case measure => simp [intOf]; omega
    · have dk : ((k : Int) + 1 < (MY : Int)) = False := eq_false (by omega)
      have HF := Lib.hid (show ∀ y, inRuns (atP [] B y) = fun x => keepS keep a b x y from fun y => by
        have := (HB.out.bands.val y).trans (HCY.out.end (by rw [HM.out]; omega) (hk.imp (fun h => by rw [HM.out]; exact h) (fun h => List.eq_nil_of_length_eq_zero (by rw [HM.out]; exact h.2))) y)
        exact this)
      have hw3 := hE3.size
      go_wp2
      go_ret
      exact ⟨_, B, rfl, hE3.trans hE, hown.lower hw3, HB.out.bands.ok, fun x y => congrFun (HF.out y) x⟩
end Go.Proofs.YtkjpcjmbhpfelaaGreat
