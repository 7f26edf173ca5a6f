/- Bitmaps: how they lie; equality of the reference. -/
import Derived.Test.YtefdheoalonbaaaPx
import Derived.Test.YtefdheoalonbaaaRect2
import Derived.BigRegion
set_option linter.unusedVariables false
set_option linter.unusedSimpArgs false
namespace Go.Proofs.Ytefdheoalonbaaa
open Go.RowKit Go.Par

abbrev BS := R4 × Option Addr × Nat × Nat
abbrev BM := R4 × List P4
def bmV (s : BS) : Value := .agg #[.int .i64 s.1.1, .int .i64 s.1.2.1, .int .i64 s.1.2.2.1, .int .i64 s.1.2.2.2, .slice s.2.1 s.2.2.1 s.2.2.2]
def bmE : EL Try.prog BS where
  enc := fun s => [.int .i64 s.1.1, .int .i64 s.1.2.1, .int .i64 s.1.2.2.1, .int .i64 s.1.2.2.2, .slice s.2.1 s.2.2.1 s.2.2.2]
  size := 5
  t := 34
  st := 35
  zero := .agg #[.int .i64 0, .int .i64 0, .int .i64 0, .int .i64 0, .slice none 0 0]
  bytes := 56
  len := fun _ => rfl
  one := fun x v hv => by simp at hv; rcases hv with rfl | rfl | rfl | rfl | rfl <;> rfl
  pos := by decide
  und := Try.underlying35
  info := by kernel_rfl
  zsize := rfl
  small := by decide
/-- the value s reads as the bitmap b -/
def BmAt (w : World) (s : BS) (b : BM) : Prop := s.1 = b.1 ∧ s.2.2.1 = b.2.length ∧ s.2.2.1 ≤ s.2.2.2 ∧ b.2.length ≤ 17592186044416 ∧ pixE.At w s.2.1 b.2
theorem BmAt.ext {w w' : World} {s : BS} {b : BM} (h : BmAt w s b) (he : Ext w w') : BmAt w' s b := ⟨h.1, h.2.1, h.2.2.1, h.2.2.2.1, h.2.2.2.2.ext he⟩
def BmsOf (w : World) (ss : List BS) (bs : List BM) : Prop := ss.length = bs.length ∧ ∀ (i : Nat) (b : BM), bs[i]? = some b → ∃ s, ss[i]? = some s ∧ BmAt w s b
theorem BmsOf.ext {w w' : World} {ss : List BS} {bs : List BM} (h : BmsOf w ss bs) (he : Ext w w') : BmsOf w' ss bs :=
  ⟨h.1, fun i b hb => by obtain ⟨s, h1, h2⟩ := h.2 i b hb; exact ⟨s, h1, h2.ext he⟩⟩
theorem BmsOf.nil (w : World) : BmsOf w [] [] := ⟨rfl, fun i b h => by simp at h⟩
theorem BmsOf.snoc {w : World} {ss : List BS} {bs : List BM} {s : BS} {b : BM} (h : BmsOf w ss bs) (hs : BmAt w s b) : BmsOf w (ss ++ [s]) (bs ++ [b]) := by
  refine ⟨by simp [h.1], fun i q hq => ?_⟩
  by_cases hi : i < bs.length
  · rw [List.getElem?_append_left hi] at hq
    obtain ⟨x, h1, h2⟩ := h.2 i q hq
    exact ⟨x, by rw [List.getElem?_append_left (by rw [h.1]; exact hi)]; exact h1, h2⟩
  · rw [List.getElem?_append_right (by omega)] at hq
    have h0 : i - bs.length = 0 := by
      have := (List.getElem?_eq_some_iff.1 hq).1
      simp at this
      omega
    rw [h0] at hq
    simp only [List.getElem?_cons_zero, Option.some.injEq] at hq
    subst hq
    exact ⟨s, by rw [List.getElem?_append_right (by rw [h.1]; omega), h.1, h0]; rfl, hs⟩
theorem bm_cells {w : World} {b o : Nat} {l : List BS} (hcell : ∀ i x, l[i]? = some x → ∀ j v, (bmE.enc x)[j]? = some v → w.cell? ⟨b, o + i * bmE.size + j, none⟩ = some v) {k : Nat} {r : BS} (hk : l[k]? = some r) :
    w.cell? ⟨b, o + k * 5, none⟩ = some (.int .i64 r.1.1) ∧ w.cell? ⟨b, o + k * 5 + 1, none⟩ = some (.int .i64 r.1.2.1) ∧ w.cell? ⟨b, o + k * 5 + 2, none⟩ = some (.int .i64 r.1.2.2.1) ∧ w.cell? ⟨b, o + k * 5 + 3, none⟩ = some (.int .i64 r.1.2.2.2) ∧ w.cell? ⟨b, o + k * 5 + 4, none⟩ = some (.slice r.2.1 r.2.2.1 r.2.2.2) :=
  ⟨hcell k r hk 0 _ rfl, hcell k r hk 1 _ rfl, hcell k r hk 2 _ rfl, hcell k r hk 3 _ rfl, hcell k r hk 4 _ rfl⟩
/-- a bitmap is valid -/
def bmOk (b : BM) : Bool := decide (rectCanonS b.1 = b.1) && decide (areaR b.1 ≤ 65536) && decide ((b.2.length : Int) = areaR b.1) && b.2.all pxOk
theorem bmOk_facts {b : BM} (h : bmOk b = true) : rectCanonS b.1 = b.1 ∧ areaR b.1 ≤ 65536 ∧ (b.2.length : Int) = areaR b.1 ∧ b.2.all pxOk = true := by
  simpa [bmOk, and_assoc] using h
end Go.Proofs.Ytefdheoalonbaaa
