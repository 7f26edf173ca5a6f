/- Assemble in both, at any page and any bitmaps. -/
import Derived.Test.YtefdheoalonbaaaAsmR2
set_option linter.unusedVariables false
set_option linter.unusedSimpArgs false
namespace Go.Proofs.Ytefdheoalonbaaa
open Go.RowKit Go.Par

def asmE (page : R4) (bs : List BM) : Int := if rectEmptyS page then 6 else if 65536 < areaR page then 5 else if bs.all bmOk then asmCode page bs else 15
def asmB (page : R4) (bs : List BM) : BM := if asmE page bs = 0 then (page, asmP page bs) else ((0, 0, 0, 0), [])
/-- what a call of Assemble hands back -/
def AsmRes (page : R4) (bs : List BM) (w : World) (e : Ending) (w' : World) : Prop :=
  ∃ q0 q1 q2 q3 A n c l, e = .returned (.tuple #[.agg #[.int .i64 q0, .int .i64 q1, .int .i64 q2, .int .i64 q3, .slice A n c], .int .i64 (asmE page bs)]) ∧ Ext w w' ∧ (((q0, q1, q2, q3), l) : BM) = asmB page bs ∧ l.length = n ∧ n ≤ c ∧ n ≤ 67108864 ∧ pixE.At w' A l
theorem asmRes_bad {page : R4} {bs : List BM} {w : World} {e : Ending} {w' : World} {k : Int} (hk : asmE page bs = k) (h0 : k ≠ 0) (h : e = .returned (.tuple #[.agg #[.int .i64 0, .int .i64 0, .int .i64 0, .int .i64 0, .slice none 0 0], .int .i64 k]) ∧ Ext w w') : AsmRes page bs w e w' :=
  ⟨0, 0, 0, 0, none, 0, 0, [], by rw [hk]; exact h.1, h.2, by unfold asmB; rw [hk, if_neg h0], rfl, Nat.le_refl _, by decide, EL.At.nil _ _⟩
theorem asmRes_main {page : R4} {bs : List BM} {w : World} {e : Ending} {w' : World} (hem : rectEmptyS page = false) (har : areaR page ≤ 65536) (hall : bs.all bmOk = true)
    (h : ∃ q0 q1 q2 q3 v, e = .returned (.tuple #[.agg #[.int .i64 q0, .int .i64 q1, .int .i64 q2, .int .i64 q3, v], .int .i64 (asmCode page bs)]) ∧ Ext w w' ∧
      (asmCode page bs = 0 → (q0, q1, q2, q3) = page ∧ pixE.Own w' w.heap.size v (asmP page bs)) ∧
      (asmCode page bs ≠ 0 → (q0, q1, q2, q3) = (0, 0, 0, 0) ∧ v = .slice none 0 0)) : AsmRes page bs w e w' := by
  have hE : asmE page bs = asmCode page bs := by unfold asmE; rw [hem, if_neg (by decide), if_neg (by omega), if_pos hall]
  obtain ⟨q0, q1, q2, q3, v, rfl, hx, h0, h1⟩ := h
  by_cases hc : asmCode page bs = 0
  · obtain ⟨hq, hown⟩ := h0 hc
    have hl := coords_length (canon_self hem)
    have hlen : (asmP page bs).length ≤ 67108864 := by
      have := (areaR_bd page).2
      unfold asmP; rw [List.length_map]; omega
    obtain ⟨A, c, rfl, hcc, hat⟩ := hown.at rfl (by omega)
    exact ⟨q0, q1, q2, q3, A, _, c, asmP page bs, by rw [hE], hx, by unfold asmB; rw [hE, if_pos hc, hq], rfl, hcc, hlen, hat⟩
  · obtain ⟨hq, rfl⟩ := h1 hc
    simp only [Prod.mk.injEq] at hq
    obtain ⟨rfl, rfl, rfl, rfl⟩ := hq
    exact ⟨0, 0, 0, 0, none, 0, 0, [], by rw [hE], hx, by unfold asmB; rw [hE, if_neg hc], rfl, Nat.le_refl _, by decide, EL.At.nil _ _⟩
theorem pAsm_all (x0 y0 x1 y1 : Int) (A : Option Addr) (c n : Nat) (ss : List BS) (bs : List BM) (w : World) (hn : ss.length = n) (hb : n ≤ 17592186044416) (hat : bmE.At w A ss) (hbs : BmsOf w ss bs) :
    Calls Try.prog 27 #[.agg #[.int .i64 x0, .int .i64 y0, .int .i64 x1, .int .i64 y1], .slice A n c] w (AsmRes (x0, y0, x1, y1) bs w) := by
  cases hem : rectEmptyS (x0, y0, x1, y1)
  · by_cases har : areaR (x0, y0, x1, y1) ≤ 65536
    · cases hall : bs.all bmOk
      · exact (AsmBad_any x0 y0 x1 y1 A c n ss bs w hn hb hat hbs hem har hall).mono fun e w' h => asmRes_bad (by unfold asmE; rw [hem, if_neg (by decide), if_neg (by omega), if_neg (by rw [hall]; decide)]) (by decide) h
      · exact (AsmMain_any x0 y0 x1 y1 A c n ss bs w hn hb hat hbs hem har hall).mono fun e w' h => asmRes_main hem har hall h
    · exact (AsmLimit_any x0 y0 x1 y1 A c n w hem (by omega)).mono fun e w' h => asmRes_bad (by unfold asmE; rw [hem, if_neg (by decide), if_pos (by omega)]) (by decide) h
  · exact (AsmEmpty_any x0 y0 x1 y1 A c n w hem).mono fun e w' h => asmRes_bad (by unfold asmE; rw [hem, if_pos rfl]) (by decide) h
theorem rAsm_all (x0 y0 x1 y1 : Int) (A : Option Addr) (c n : Nat) (ss : List BS) (bs : List BM) (w : World) (hn : ss.length = n) (hb : n ≤ 17592186044416) (hat : bmE.At w A ss) (hbs : BmsOf w ss bs) :
    Calls Try.prog 28 #[.agg #[.int .i64 x0, .int .i64 y0, .int .i64 x1, .int .i64 y1], .slice A n c] w (AsmRes (x0, y0, x1, y1) bs w) := by
  cases hem : rectEmptyS (x0, y0, x1, y1)
  · by_cases har : areaR (x0, y0, x1, y1) ≤ 65536
    · cases hall : bs.all bmOk
      · exact (rAsmBad_any x0 y0 x1 y1 A c n ss bs w hn hb hat hbs hem har hall).mono fun e w' h => asmRes_bad (by unfold asmE; rw [hem, if_neg (by decide), if_neg (by omega), if_neg (by rw [hall]; decide)]) (by decide) h
      · exact (rAsmMain_any x0 y0 x1 y1 A c n ss bs w hn hb hat hbs hem har hall).mono fun e w' h => asmRes_main hem har hall h
    · exact (rAsmLimit_any x0 y0 x1 y1 A c n w hem (by omega)).mono fun e w' h => asmRes_bad (by unfold asmE; rw [hem, if_neg (by decide), if_pos (by omega)]) (by decide) h
  · exact (rAsmEmpty_any x0 y0 x1 y1 A c n w hem).mono fun e w' h => asmRes_bad (by unfold asmE; rw [hem, if_pos rfl]) (by decide) h
end Go.Proofs.Ytefdheoalonbaaa
