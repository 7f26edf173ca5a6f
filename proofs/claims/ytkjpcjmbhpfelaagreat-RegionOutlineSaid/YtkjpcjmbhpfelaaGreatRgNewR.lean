/- The reference: two, Made, New, Union, Intersect, Subtract, Equal, IsCanonical, Area, Bounds. -/
import Derived.Test.YtkjpcjmbhpfelaaGreatRgMadeR
import Derived.Test.YtkjpcjmbhpfelaaGreatRgArea
set_option linter.unusedVariables false
set_option linter.unusedSimpArgs false
namespace Go.Proofs.YtkjpcjmbhpfelaaGreat
open Go.RowKit Go.Par Go.Reg

set_option maxHeartbeats 1600000 in
theorem rTwo_any (a b : List R4) (A1 A2 : Option Addr) (n1 c1 n2 c2 : Nat) (way : Int) (keep : Bool → Bool → Bool) (w : World) (hn1 : a.length = n1) (hn2 : b.length = n2) (hb1 : n1 ≤ 1024) (hb2 : n2 ≤ 1024)
    (h1 : rectE.At w A1 a) (h2 : rectE.At w A2 b) (hw : Way way keep) :
    Calls Tryz.prog 40 #[.slice A1 n1 c1, .slice A2 n2 c2, .int .i64 way] w fun e w' => ∃ v er L, e = .returned (.tuple #[v, .int .i64 er]) ∧ Ext w w' ∧ RegRes w.heap.size (keepS keep a b) L v er w' := by
  have H := Lib.hid (rMade_any a b A1 A2 n1 c1 n2 c2 way keep w hn1 hn2 (by omega) (by omega) h1 h2 hw)
  have HW := Lib.hid (keepS_win hw.zero a b)
  have d1 : ((1024 : Int) < (n1 : Int)) = False := eq_false (by omega)
  have d2 : ((1024 : Int) < (n2 : Int)) = False := eq_false (by omega)
  have d3 : ¬ 1024 < n1 := by omega
  have d4 : ¬ 1024 < n2 := by omega
  clear hn1 hn2 h1 h2 hw
  go_enter Tryz.func40, Tryz.ntmps40
  go_wp2_with fail
  refine H.out.mono ?_
  rintro e w1 ⟨v, B, rfl, hE, hown, hok, hin⟩
  obtain ⟨hl1, hreg, hl2⟩ := bands_next HW.out hok hin
  obtain ⟨A6, c6, rfl, _, _⟩ := hown.len
  have HR := Lib.hid hreg
  generalize rectsB B = L at *
  obtain ⟨N, hN⟩ : ∃ N, L.length = N := ⟨_, rfl⟩
  rw [hN] at hl1 ⊢
  have HN := Lib.hid hN
  have HO := Lib.hid hown
  clear hN hown hok hin hreg hl2 H HW
  by_cases h : 1024 < N
  · have e1 : ((1024 : Int) < (N : Int)) = True := eq_true (by omega)
    go_wp2
    exact bodyPost_ret (v := .tuple #[.slice none 0 0, .int .i64 5]) (by simp [results, Tryz.results40, go_sem, List.size_toArray]) rfl ⟨_, 5, L, rfl, hE, HR.out, .inr ⟨by rw [HN.out]; exact h, rfl, rfl⟩⟩
  · have e1 : ((1024 : Int) < (N : Int)) = False := eq_false (by omega)
    have e2 : ¬ 1024 < N := h
    go_wp2
    exact bodyPost_ret (v := .tuple #[.slice A6 N c6, .int .i64 0]) (by simp [results, Tryz.results40, go_sem, List.size_toArray]) rfl ⟨_, 0, L, rfl, hE, HR.out, .inl ⟨by rw [HN.out]; omega, rfl, by have := HO.out; rw [HN.out] at this; exact this⟩⟩
set_option maxHeartbeats 800000 in
theorem rNew_any (l : List R4) (A : Option Addr) (n c : Nat) (w : World) (hn : l.length = n) (hb : n ≤ 1024) (h1 : rectE.At w A l) :
    Calls Tryz.prog 20 #[.slice A n c] w fun e w' => ∃ v er L, e = .returned (.tuple #[v, .int .i64 er]) ∧ Ext w w' ∧ RegRes w.heap.size (inL l) L v er w' := by
  have H := Lib.hid (rTwo_any l [] A none n c 0 0 1 (fun p q => p || q) w hn rfl hb (by omega) h1 (EL.At.nil _ _) (.inl ⟨rfl, rfl⟩))
  clear hn h1
  go_enter Tryz.func20, Tryz.ntmps20
  go_wp2_with fail
  refine H.out.mono ?_
  rintro e w1 ⟨v, er, L, rfl, hE, hr, hres⟩
  have HR := Lib.hid (hr.congr (keep_nil l))
  have HS := Lib.hid hres
  clear hr hres
  go_wp2
  exact bodyPost_ret (v := .tuple #[v, .int .i64 er]) (by simp [results, Tryz.results20, go_sem, List.size_toArray]) rfl ⟨v, er, L, rfl, hE, HR.out, HS.out⟩
end Go.Proofs.YtkjpcjmbhpfelaaGreat