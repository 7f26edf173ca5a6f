/- slices.SortFunc by polygon.compare: a permutation of the row, in order. -/
import Derived.Test.YthfeamlioiaebaaSort2
import Derived.Shelf.SlSortCmp.NoneTotal
set_option linter.unusedVariables false
set_option linter.unusedSimpArgs false
namespace Go.Proofs.Ythfeamlioiaebaa
open Go.RowKit Go.Par Go.Sort Go.Lib

theorem ltOf_cmp (a b : P2) : ltOf cmpS a b = lessS a b := by
  unfold ltOf cmpS
  cases h1 : lessS a b
  · cases h2 : lessS b a <;> simp
  · simp
theorem less_iff (a b : P2) : lessS a b = true ↔ (heldS a.2 < heldS b.2 ∨ (heldS a.2 = heldS b.2 ∧ heldS a.1 < heldS b.1)) := by
  unfold lessS
  simp
theorem less_not (a b : P2) : lessS a b = false ↔ ¬ (heldS a.2 < heldS b.2 ∨ (heldS a.2 = heldS b.2 ∧ heldS a.1 < heldS b.1)) := by
  rw [← less_iff, Bool.not_eq_true]
theorem swo_cmp : SWO (ltOf cmpS) where
  irrefl x := by rw [ltOf_cmp, less_not]; omega
  trans x y z h1 h2 := by rw [ltOf_cmp, less_iff] at *; omega
  ntrans x y z h1 h2 := by rw [ltOf_cmp, less_not] at *; omega
theorem ext_grow (W : World) (os : Array Obj) : Ext W (grow W os) :=
  ⟨rfl, rfl, rfl, by simp [grow], fun k hk => by simp [grow, Array.getElem?_append_left hk]⟩
theorem cmp_lays (blk off size : Nat) (w : World) : CmpLays Try.prog 80 #[] encPt 2 cmpS blk off size w :=
  fun m os dk _ x y => (compare_d x.1 x.2 y.1 y.2 _).mono fun e w' ⟨h1, h2⟩ => ⟨h1, extD_grow h2⟩
theorem sort_none (A : Option Addr) (c : Nat) (fv : Value) (w : World) :
    Calls Try.prog 79 #[.slice A 0 c, fv] w fun e w' => e = .returned (.tuple #[]) ∧ w = w' :=
  Calls.mono (AnyF.slices_SortFunc_none Try.sortPt A c fv w) fun e w' ⟨h1, h2⟩ => ⟨h1, h2.symm⟩
theorem sort_any {w : World} {B g n cap : Nat} {l : List P2} (h : Own w B (.slice (some ⟨g, 0, none⟩) n cap) l) (hn : n ≤ 1000000) :
    Calls Try.prog 79 #[.slice (some ⟨g, 0, none⟩) n cap, .func (.func 80) #[] #[]] w fun e w' =>
      e = .returned (.tuple #[]) ∧ ∃ l' : List P2, l'.Perm l ∧ l'.Pairwise (fun a b => lessS b a = false) ∧ Own w' B (.slice (some ⟨g, 0, none⟩) n cap) l' ∧ But g w w' := by
  have hl := (own_open h).choose_spec.1
  have hg : g < w.heap.size := by
    obtain ⟨cur, _, _, hh, _⟩ := own_open h
    exact Box.lt (t := 24) (cs := cur) hh
  have hs : l.toArray.size = n := by rw [List.size_toArray]; exact hl.symm
  have hH := own_holds h 0 (Nat.zero_le _)
  rw [Nat.zero_mul, List.drop_zero] at hH
  have eg : ∀ args w, (callFunc 80 args).run Try.prog w = .ok (.enter 80 args) w := enters_of Try.func80 (by kernel_rfl) rfl
  have hcon := AnyQ.slices_SortFunc Try.sortPt 2 aggPt sizePt encPt encPt_len encPt_one cmpS swo_cmp 80 #[] g 0 cap l.toArray w eg (cmp_lays g 0 _ w) hH hg (by rw [hs]; omega)
  rw [hs] at hcon
  refine Calls.mono hcon ?_
  rintro e w' ⟨rfl, d', m, os, hp, hso, rfl⟩
  obtain ⟨hsz, _, hperm⟩ := hp
  rw [hs] at hsz
  have hp := own_put h 0 (Nat.zero_le _) d' hsz m
  rw [Nat.zero_mul, List.take_zero, List.nil_append] at hp
  refine ⟨rfl, d'.toList, ?_, ?_, hp.ext (ext_grow _ os), ?_⟩
  · have e1 : d'.extract 0 n = d' := by rw [← hsz]; simp
    have e2 : l.toArray.extract 0 n = l.toArray := by rw [← hs]; simp
    rw [e1, e2] at hperm
    simpa using hperm
  · rw [List.pairwise_iff_getElem]
    intro i j hi hj hij
    simp only [Array.length_toList] at hi hj
    have := hso i j (Nat.zero_le _) hij (by omega)
    rw [ltOf_cmp, getElem!_pos d' i hi, getElem!_pos d' j hj] at this
    simpa using this
  · have := but_putRowK (w := w) (g := g) 0 m d'
    exact this.trans (But.of_ext (ext_grow _ os))
end Go.Proofs.Ythfeamlioiaebaa
