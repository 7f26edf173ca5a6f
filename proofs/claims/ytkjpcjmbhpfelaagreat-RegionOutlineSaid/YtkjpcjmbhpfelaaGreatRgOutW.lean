/- Outlines of the program: before, uncovered. -/
import Derived.Test.YtkjpcjmbhpfelaaGreatZC
import Derived.Test.YtkjpcjmbhpfelaaGreatZB
import Derived.Test.YtkjpcjmbhpfelaaGreatRgFam
set_option linter.unusedVariables false
set_option linter.unusedSimpArgs false
namespace Go.Proofs.YtkjpcjmbhpfelaaGreat
open Go.RowKit Go.Par Go.Reg

/-- pairs of numbers, pieces of boundary, points -/
def prE : EL Tryz.prog (Int × Int) where
  enc := fun r => [.int .i64 r.1, .int .i64 r.2]
  size := 2
  t := 59
  st := 75
  zero := .agg #[.int .i64 0, .int .i64 0]
  bytes := 16
  len := fun _ => rfl
  one := fun x v hv => by simp at hv; rcases hv with rfl | rfl <;> rfl
  pos := by decide
  und := Tryz.underlying75
  info := by kernel_rfl
  zsize := rfl
  small := by decide
def ptE : EL Tryz.prog (Int × Int) where
  enc := fun r => [.int .i64 r.1, .int .i64 r.2]
  size := 2
  t := 42
  st := 48
  zero := .agg #[.int .i64 0, .int .i64 0]
  bytes := 16
  len := fun _ => rfl
  one := fun x v hv => by simp at hv; rcases hv with rfl | rfl <;> rfl
  pos := by decide
  und := Tryz.underlying48
  info := by kernel_rfl
  zsize := rfl
  small := by decide
def edgE : EL Tryz.prog Edg where
  enc := fun r => [.int .i64 r.1, .int .i64 r.2.1, .int .i64 r.2.2.1, .int .i64 r.2.2.2.1, .int .i64 (r.2.2.2.2 : Int)]
  size := 5
  t := 44
  st := 38
  zero := .agg #[.int .i64 0, .int .i64 0, .int .i64 0, .int .i64 0, .int .i64 0]
  bytes := 40
  len := fun _ => rfl
  one := fun x v hv => by simp at hv; rcases hv with rfl | rfl | rfl | rfl | rfl <;> rfl
  pos := by decide
  und := Tryz.underlying38
  info := by kernel_rfl
  zsize := rfl
  small := by decide
def befS (p q : Int × Int) : Int := if p.2 = q.2 then p.1 - q.1 else p.2 - q.2
set_option maxHeartbeats 800000 in
theorem before_any (a b c d : Int) (w : World) (h : (-4294967296 ≤ a ∧ a ≤ 4294967296) ∧ (-4294967296 ≤ b ∧ b ≤ 4294967296) ∧ (-4294967296 ≤ c ∧ c ≤ 4294967296) ∧ (-4294967296 ≤ d ∧ d ≤ 4294967296)) :
    Calls Tryz.prog 19 #[.agg #[.int .i64 a, .int .i64 b], .agg #[.int .i64 c, .int .i64 d]] w fun e w' => e = .returned (.int .i64 (befS (a, b) (c, d))) ∧ ExtD w w' := by
  have q1 : IntKind.i64.wrap (b - d) = b - d := IntWalk.i64_in _ (by omega)
  have q2 : IntKind.i64.wrap (a - c) = a - c := IntWalk.i64_in _ (by omega)
  clear h
  by_cases hbd : b = d
  · subst hbd
    have HR := Lib.hid (show befS (a, b) (c, b) = a - c from if_pos rfl)
    have d1 : (b != b) = false := by simp
    go_enter Tryz.func19, Tryz.ntmps19
    go_wp2
    go_ret
    exact ⟨ret_eq (by rw [HR.out]; simp), (Ext.alloc _ _).trans (Ext.alloc _ _), Nat.le_refl _⟩
  · have HR := Lib.hid (show befS (a, b) (c, d) = b - d from if_neg hbd)
    have d1 : (b != d) = true := by simpa using hbd
    have d2 : (b = d) = False := eq_false hbd
    clear hbd
    go_enter Tryz.func19, Tryz.ntmps19
    go_wp2
    go_ret
    exact ⟨ret_eq (by rw [HR.out]; simp), (Ext.alloc _ _).trans (Ext.alloc _ _), Nat.le_refl _⟩
theorem drop_consG {α : Type} {l : List α} {k : Nat} {x : α} (h : l[k]? = some x) : l.drop k = x :: l.drop (k + 1) := by
  obtain ⟨h1, h2⟩ := List.getElem?_eq_some_iff.1 h
  rw [List.drop_eq_getElem_cons h1, h2]
set_option maxRecDepth 100000 in
set_option maxHeartbeats 1600000 in
theorem uncovered_any (x0 x1 : Int) (l : List R4) (A : Option Addr) (n c : Nat) (w : World) (hn : l.length = n) (hb : n ≤ 1000000) (hA : rectE.At w A l) :
    Calls Tryz.prog 37 #[.int .i64 x0, .int .i64 x1, .slice A n c] w fun e w' => ∃ v, e = .returned v ∧ Ext w w' ∧ prE.Own w' w.heap.size v (unc x1 x0 l) := by
  have HN := Lib.hid hn
  clear hn
  go_enter Tryz.func37, Tryz.ntmps37
  go_wp2_with fail
  go_loopw [0, 7, 12] (fun x s i wr => ∃ (k : Nat) (x' : Int) (R : List (Int × Int)), k ≤ n ∧ x = .int .i64 x' ∧ i = .int .i64 k ∧ Ext w wr ∧ prE.Own wr w.heap.size s R ∧ R.length ≤ k ∧ Hid (unc x1 x0 l = R ++ unc x1 x' (l.drop k))) (fun _ _ i _ => n - (intOf i).toNat)
  case atStart => exact ⟨0, x0, [], Nat.zero_le _, rfl, rfl, Ext.refl _, EL.Own.nil _ _, Nat.le_refl _, Lib.hid rfl⟩
  case round =>
    obtain ⟨k, x', R, hk, rfl, rfl, hE, hown, hR, HU⟩ := hrel
    by_cases hlt : k < n
    · have dk : ((k : Int) < (n : Int)) = True := eq_true (by omega)
      obtain ⟨⟨a, y, b, y'⟩, hlk⟩ : ∃ q, l[k]? = some q := ⟨_, List.getElem?_eq_getElem (by rw [HN.out]; exact hlt)⟩
      obtain ⟨bb, o, rfl⟩ := hA.addr hlk
      obtain ⟨e0, e1, e2, e3⟩ := rect_cell hA hlk
      dsimp only at e0 e1 e2 e3
      replace e0 := hE.cell e0
      replace e1 := hE.cell e1
      replace e2 := hE.cell e2
      replace e3 := hE.cell e3
      have HD := Lib.hid (drop_consG hlk)
      have b9 := Box.new wr 34 #[.int .i64 a, .int .i64 y, .int .i64 b, .int .i64 y']
      have c9 := b9.cell
      have hEa := hE.trans (Ext.alloc wr (.cells #[.int .i64 a, .int .i64 y, .int .i64 b, .int .i64 y'] 34))
      have hownA := hown.ext (Ext.alloc wr (.cells #[.int .i64 a, .int .i64 y, .int .i64 b, .int .i64 y'] 34))
      clear hlk
      by_cases h1 : b ≤ x'
      · have d1 : (b ≤ x') = True := eq_true h1
        have HX := Lib.hid (show unc x1 x' (l.drop k) = unc x1 x' (l.drop (k + 1)) from by rw [HD.out]; exact if_pos (.inl h1))
        clear h1 hown
        go_wp2
        go_roundw
        case rel => exact ⟨k + 1, x', R, by omega, rfl, by go_num, hEa, hownA, by omega, Lib.hid (by rw [HU.out, HX.out])⟩
        case measure => simp [intOf]; omega
      · have d1 : (b ≤ x') = False := eq_false h1
        by_cases h2 : x1 ≤ a
        · have d2 : (x1 ≤ a) = True := eq_true h2
          have HX := Lib.hid (show unc x1 x' (l.drop k) = unc x1 x' (l.drop (k + 1)) from by rw [HD.out]; exact if_pos (.inr h2))
          clear h1 h2 hown
          go_wp2
          go_roundw
          case rel => exact ⟨k + 1, x', R, by omega, rfl, by go_num, hEa, hownA, by omega, Lib.hid (by rw [HU.out, HX.out])⟩
          case measure => simp [intOf]; omega
        · have d2 : (x1 ≤ a) = False := eq_false h2
          have HX0 := Lib.hid (show unc x1 x' (l.drop k) = (if x' < a then [(x', a)] else []) ++ unc x1 b (l.drop (k + 1)) from by rw [HD.out]; exact if_neg (by dsimp only; omega))
          clear h1 h2
          by_cases h3 : x' < a
          · have d3 : (x' < a) = True := eq_true h3
            have HX := Lib.hid (show unc x1 x0 l = (R ++ [(x', a)]) ++ unc x1 b (l.drop (k + 1)) from by rw [HU.out, HX0.out, if_pos h3, List.append_assoc])
            have hEb := hEa.trans (Ext.alloc _ (.cells #[.int .i64 x', .int .i64 a] 59))
            have hownB := hownA.ext (Ext.alloc _ (.cells #[.int .i64 x', .int .i64 a] 59))
            have hrow := EL.rowOne (E := prE) (x := (x', a)) (Box.at1 (w := wr) (o := .cells #[.int .i64 a, .int .i64 y, .int .i64 b, .int .i64 y'] 34) (t := 59) (cs := #[.int .i64 x', .int .i64 a])) rfl
            have hll : R.length + ([(x', a)] : List (Int × Int)).length ≤ 1000000000 := by simp; omega
            have hsz := hEb.size
            clear h3 hown hownA
            have b9B := b9.alloc (.cells #[.int .i64 x', .int .i64 a] 59)
            have hne9 := own_ne_typeG hownB b9B (by decide)
            go_wp2_with (at_builtin; refine EL.wpApp prE rfl _ _ rfl w.heap.size _ _ R [(x', a)] rfl rfl hownB hrow hll hsz ?_; intro v1 W1 own1 gr1 _; have c9' := (boxGrown b9B gr1 hne9).cell; clear c9; have c9 := c9'; clear c9')
            have hE2 := growExt hEb hownB (Nat.le_refl _) gr1
            go_roundw
            case rel => exact ⟨k + 1, b, _, by omega, rfl, by go_num, hE2, own1, by simp; omega, HX⟩
            case measure => simp [intOf]; omega
          · have d3 : (x' < a) = False := eq_false h3
            have HX := Lib.hid (show unc x1 x0 l = R ++ unc x1 b (l.drop (k + 1)) from by rw [HU.out, HX0.out, if_neg h3, List.nil_append])
            clear h3 hown
            go_wp2
            go_roundw
            case rel => exact ⟨k + 1, b, R, by omega, rfl, by go_num, hEa, hownA, by omega, HX⟩
            case measure => simp [intOf]; omega
    · have dk : ((k : Int) < (n : Int)) = False := eq_false (by omega)
      have HD := Lib.hid (show l.drop k = [] from List.drop_eq_nil_of_le (by rw [HN.out]; omega))
      have hE0 := hE
      by_cases h3 : x' < x1
      · have d3 : (x' < x1) = True := eq_true h3
        have HX := Lib.hid (show unc x1 x0 l = R ++ [(x', x1)] from by rw [HU.out, HD.out]; congr 1; exact if_pos h3)
        have hEb := hE.trans (Ext.alloc _ (.cells #[.int .i64 x', .int .i64 x1] 59))
        have hownB := hown.ext (Ext.alloc _ (.cells #[.int .i64 x', .int .i64 x1] 59))
        have hrow := EL.rowOne (E := prE) (x := (x', x1)) (Box.new wr 59 #[.int .i64 x', .int .i64 x1]) rfl
        have hll : R.length + ([(x', x1)] : List (Int × Int)).length ≤ 1000000000 := by simp; omega
        have hsz := hEb.size
        clear h3 hown
        go_wp2_with (at_builtin; refine EL.wpApp prE rfl _ _ rfl w.heap.size _ _ R [(x', x1)] rfl rfl hownB hrow hll hsz ?_; intro v1 W1 own1 gr1 _)
        have hE2 := growExt hEb hownB (Nat.le_refl _) gr1
        go_ret
        exact ⟨_, rfl, hE2, by rw [HX.out]; exact own1⟩
      · have d3 : (x' < x1) = False := eq_false h3
        have HX := Lib.hid (show unc x1 x0 l = R from by rw [HU.out, HD.out]; rw [show unc x1 x' [] = [] from if_neg h3, List.append_nil])
        clear h3
        obtain ⟨A6, c6, rfl, _, _⟩ := hown.len
        go_wp2
        go_ret
        exact ⟨_, rfl, hE, by rw [HX.out]; exact hown⟩
end Go.Proofs.YtkjpcjmbhpfelaaGreat
